/- The forms of the translated functions,their contracts and the plain laws behind them,put together by a program. -/
import Derived.Test.YthaefcgpbccmbaaGreatDoorPE20
import Derived.Test.YthaefcgpbccmbaaGreatDoorProg
set_option linter.unusedSimpArgs false
set_option linter.unusedVariables false
set_option maxRecDepth 100000
set_option maxHeartbeats 4000000
section
namespace Go.Proofs.YthaefcgpbccmbaaGreatDoor
open Go Go.Sh
open Go.Proofs.Tryz
structure rQ (α:Type) where
 K:Nat
 f:α->List Value
 val:α->Value
 m:Int->Int->α
 ex:(α->Prop)->Prop
 mark:FuncId
 e:TypeId
 t:TypeId
 tt:TypeId
 cmp:Nat->(List PanicEntry->zP)->(zP)->α->α->World->(zP)->(zP)->Prop
 wr:(zP)->(zP)->zP
structure nW {α:Type} (κ:rQ α):Prop where
 pos:0<κ.K
 small:κ.K<=2 ^ 24
 len : ∀ x,(κ.f x).length=κ.K
 one : ∀ x,∀ v∈κ.f x,v.oneCell'=true
 cells : ∀ x,(κ.val x).cells=(κ.f x).toArray
 ex : ∀ {Q:α->Prop} (c:α),Q c->κ.ex Q
 mark : ∀ {w:World} {k i:Int},Calls prog κ.mark #[.int .i64 k,.int .i64 i] w (Ret λv w'=>v=κ.val (κ.m k i)/\Mod NoB w w')
 cmp : ∀ {sx KF KT:zP} {pan:List PanicEntry->zP} (s:Nat) (k i:Int) (w:World),(∀ w',Mod NoB w w'->sx w'/\KT w')->κ.cmp s pan sx (κ.m k i) (κ.m k i) w KF KT
 wr : ∀ {sx K:zP} {w:World},sx w->K w->κ.wr sx K w
 info : ∃ i z z0 b,prog.info? κ.e=some i/\i.zero=some z/\i.size=κ.K/\z.cells=(κ.f z0).toArray/\i.bytes=b/\b<=200
 ue:prog.underlying κ.t=some (.slice κ.e)
 ut:prog.underlying κ.tt=some (.slice κ.t)
 it : ∃ i,prog.info? κ.t=some i/\i.zero=some (.slice none 0 0)/\i.size=1/\i.bytes=24
 se:(prog.info? κ.e).isSome=true
 sz:bE prog κ.e=κ.K
 st:(prog.info? κ.t).isSome=true
 s1:bE prog κ.t=1
theorem qBG {vs us:List Value} {n i K:Nat} (hv:vs.length=n*K) (hi:i<n) (hu:us.length=K):(putAt vs (i*K) us).take ((i+1)*K)=vs.take (i*K)++us:=by
 have h1:(i+1)*K<=n*K:=Nat.mul_le_mul_right K hi
 rw [Nat.succ_mul] at h1 ⊢
 unfold putAt
 rw [List.take_append_of_le_length (by simp; omega),List.take_of_length_le (by simp; omega)]
def qUP {α:Type} (κ:rQ α) (ls:Slc) (w:World) (R:RW):Prop:=
 ∃ (inv:zT) (mu:zU),inv [.i .i64 (0:Int)] w/\(∀ k:Int,∀ w1:World,inv [.i .i64 k] w1->aE (decide (k<(ls.len:Int))) (∃ (inv1:zT) (mu1:zU),inv1 [.i .i64 (0:Int)] w1/\(∀ i:Int,∀ w2:World,inv1 [.i .i64 i] w2->((0<=k/\k<(ls.len:Nat))/\aA ls.a λa=>∃ x:Slc,Rd w2 (a.add (k.toNat*1)) [.slice x.a x.len x.cap]/\aE (decide (i<(x.len:Int))) (∃ sx:zP,sx w2.drew/\((0<=k/\k<(ls.len:Nat))/\aA ls.a λa1=>∃ x1:Slc,(∀ w',sx w'->Rd w' (a1.add (k.toNat*1)) [.slice x1.a x1.len x1.cap])/\((aD prog κ.mark [.int .i64 k,.int .i64 i] w2.drew (aG R) λv w3=>κ.ex λxa=>v=(κ.val xa)/\(sx w3/\((0<=i/\i<(x1.len:Nat))/\aA x1.a λa2=>((aJ prog (storeVar κ.e (a2.add (i.toNat*κ.K)) (κ.val xa)) w3 λw4=>(inv1 [.i .i64 (zW (i+(1:Int)))] w4/\mu1 [.i .i64 (zW (i+(1:Int)))] w4<mu1 [.i .i64 i] w2))/\True))))/\True))) ((inv [.i .i64 (zW (k+(1:Int)))] w2/\mu [.i .i64 (zW (k+(1:Int)))] w2<mu [.i .i64 k] w1))))) (aH prog (Instr.makeSlice κ.tt (.int .i64 (ls.len:Int)) (.int .i64 (ls.len:Int))) w1 λv1 w5=>∃ x2:Slc,v1=(.slice x2.a x2.len x2.cap)/\∃ (inv2:zT) (mu2:zU),inv2 [.i .i64 (0:Int)] w5/\(∀ k1:Int,∀ w6:World,inv2 [.i .i64 k1] w6->aE (decide (k1<(ls.len:Int))) (((0<=k1/\k1<(ls.len:Nat))/\aA ls.a λa3=>∃ x3:Slc,Rd w6 (a3.add (k1.toNat*1)) [.slice x3.a x3.len x3.cap]/\∃ (inv3:zT) (mu3:zU),inv3 [.sl x3,.i .i64 (0:Int)] w6/\(∀ g:Slc,∀ i1:Int,∀ w7:World,inv3 [.sl g,.i .i64 i1] w7->aE (decide (i1<(64:Int))) (((0<=k1/\k1<(ls.len:Nat))/\aA ls.a λa4=>∃ x4:Slc,Rd w7 (a4.add (k1.toNat*1)) [.slice x4.a x4.len x4.cap]/\aD prog κ.mark [.int .i64 k1,.int .i64 (zW ((x4.len:Int)+i1))] w7 (aG R) λv2 w8=>κ.ex λxa1=>v2=(κ.val xa1)/\aH prog (Instr.buildSlice κ.t 1 #[(0,(κ.val xa1))]) w8 λv3 w9=>∃ x5:Slc,v3=(.slice x5.a x5.len x5.cap)/\aH prog (Builtin.append_ #[κ.t,κ.t] κ.t #[.slice g.a g.len g.cap,.slice x5.a x5.len x5.cap]) w9 λv4 w10=>∃ x6:Slc,v4=(.slice x6.a x6.len x6.cap)/\(inv3 [.sl x6,.i .i64 (zW (i1+(1:Int)))] w10/\mu3 [.sl x6,.i .i64 (zW (i1+(1:Int)))] w10<mu3 [.sl g,.i .i64 i1] w7))) (((0<=k1/\k1<(x2.len:Nat))/\aA x2.a λa5=>aJ prog (storeVar κ.t (a5.add (k1.toNat*1)) (.slice g.a g.len g.cap)) w7 λw11=>(inv2 [.i .i64 (zW (k1+(1:Int)))] w11/\mu2 [.i .i64 (zW (k1+(1:Int)))] w11<mu2 [.i .i64 k1] w6)))))) (∃ (inv4:zT) (mu4:zU),inv4 [.i .i64 (0:Int)] w6/\(∀ k2:Int,∀ w12:World,inv4 [.i .i64 k2] w12->aE (decide (k2<(ls.len:Int))) (∃ (inv5:zT) (mu5:zU),inv5 [.i .i64 (0:Int)] w12/\(∀ i2:Int,∀ w13:World,inv5 [.i .i64 i2] w13->((0<=k2/\k2<(x2.len:Nat))/\aA x2.a λa6=>∃ x7:Slc,Rd w13 (a6.add (k2.toNat*1)) [.slice x7.a x7.len x7.cap]/\aE (decide (i2<(x7.len:Int))) (∃ sx1:zP,sx1 w13.drew/\((0<=k2/\k2<(x2.len:Nat))/\aA x2.a λa7=>∃ x8:Slc,(∀ w',sx1 w'->Rd w' (a7.add (k2.toNat*1)) [.slice x8.a x8.len x8.cap])/\((0<=i2/\i2<(x8.len:Nat))/\aA x8.a λa8=>κ.ex λxa2=>(∀ w',sx1 w'->Rd w' (a8.add (i2.toNat*κ.K)) (κ.f xa2))/\((aD prog κ.mark [.int .i64 k2,.int .i64 i2] w13.drew (aG R) λv5 w14=>κ.ex λxa3=>v5=(κ.val xa3)/\(sx1 w14/\(κ.cmp 0 (aG R) sx1 xa2 xa3 w14 (λw15=>κ.wr sx1 (λw=>R (.returned (.bool false)) w) w15) (λw15=>((0<=k2/\k2<(ls.len:Nat))/\aA ls.a λa9=>∃ x10:Slc,(∀ w',sx1 w'->Rd w' (a9.add (k2.toNat*1)) [.slice x10.a x10.len x10.cap])/\aE (decide (i2<(x10.len:Int))) (((0<=k2/\k2<(ls.len:Nat))/\aA ls.a λa10=>∃ x11:Slc,(∀ w',sx1 w'->Rd w' (a10.add (k2.toNat*1)) [.slice x11.a x11.len x11.cap])/\((0<=i2/\i2<(x11.len:Nat))/\aA x11.a λa11=>κ.ex λxa4=>(∀ w',sx1 w'->Rd w' (a11.add (i2.toNat*κ.K)) (κ.f xa4))/\((aD prog κ.mark [.int .i64 k2,.int .i64 i2] w15 (aG R) λv7 w16=>κ.ex λxa5=>v7=(κ.val xa5)/\(sx1 w16/\(κ.cmp 1 (aG R) sx1 xa4 xa5 w16 (λw17=>R (.returned (.bool false)) w17) (λw17=>(inv5 [.i .i64 (zW (i2+(1:Int)))] w17/\mu5 [.i .i64 (zW (i2+(1:Int)))] w17<mu5 [.i .i64 i2] w13)))))/\True)))) (κ.wr sx1 (λw=>inv5 [.i .i64 (zW (i2+(1:Int)))] w/\mu5 [.i .i64 (zW (i2+(1:Int)))] w<mu5 [.i .i64 i2] w13) w15))))))/\True)))) ((inv4 [.i .i64 (zW (k2+(1:Int)))] w13/\mu4 [.i .i64 (zW (k2+(1:Int)))] w13<mu4 [.i .i64 k2] w12))))) (∃ (inv6:zT) (mu6:zU),inv6 [.i .i64 (0:Int)] w12/\(∀ k3:Int,∀ w18:World,inv6 [.i .i64 k3] w18->aE (decide (k3<(ls.len:Int))) (aH prog (Instr.makeSlice κ.t (.int .i64 (64:Int)) (.int .i64 (64:Int))) w18 λv9 w19=>∃ x13:Slc,v9=(.slice x13.a x13.len x13.cap)/\∃ (inv7:zT) (mu7:zU),inv7 [.i .i64 (0:Int)] w19/\(∀ i3:Int,∀ w20:World,inv7 [.i .i64 i3] w20->aE (decide (i3<(64:Int))) (aD prog κ.mark [.int .i64 (zW (k3+(ls.len:Int))),.int .i64 i3] w20 (aG R) λv10 w21=>κ.ex λxa6=>v10=(κ.val xa6)/\((0<=i3/\i3<(x13.len:Nat))/\aA x13.a λa12=>aJ prog (storeVar κ.e (a12.add (i3.toNat*κ.K)) (κ.val xa6)) w21 λw22=>(inv7 [.i .i64 (zW (i3+(1:Int)))] w22/\mu7 [.i .i64 (zW (i3+(1:Int)))] w22<mu7 [.i .i64 i3] w20))) (((0<=k3/\k3<(ls.len:Nat))/\aA ls.a λa13=>∃ x14:Slc,Rd w20 (a13.add (k3.toNat*1)) [.slice x14.a x14.len x14.cap]/\aH prog (Builtin.append_ #[κ.t,κ.t] κ.t #[.slice x14.a x14.len x14.cap,.slice x13.a x13.len x13.cap]) w20 λv11 w23=>∃ x15:Slc,v11=(.slice x15.a x15.len x15.cap)/\((0<=k3/\k3<(x2.len:Nat))/\aA x2.a λa14=>aJ prog (storeVar κ.t (a14.add (k3.toNat*1)) (.slice x15.a x15.len x15.cap)) w23 λw24=>(inv6 [.i .i64 (zW (k3+(1:Int)))] w24/\mu6 [.i .i64 (zW (k3+(1:Int)))] w24<mu6 [.i .i64 k3] w18)))))) (∃ (inv8:zT) (mu8:zU),inv8 [.i .i64 (0:Int)] w18/\(∀ k4:Int,∀ w25:World,inv8 [.i .i64 k4] w25->aE (decide (k4<(ls.len:Int))) (∃ (inv9:zT) (mu9:zU),inv9 [.i .i64 (0:Int)] w25/\(∀ i4:Int,∀ w26:World,inv9 [.i .i64 i4] w26->((0<=k4/\k4<(ls.len:Nat))/\aA ls.a λa15=>∃ x16:Slc,Rd w26 (a15.add (k4.toNat*1)) [.slice x16.a x16.len x16.cap]/\aE (decide (i4<(x16.len:Int))) (∃ sx2:zP,sx2 w26.drew/\((0<=k4/\k4<(ls.len:Nat))/\aA ls.a λa16=>∃ x17:Slc,(∀ w',sx2 w'->Rd w' (a16.add (k4.toNat*1)) [.slice x17.a x17.len x17.cap])/\((0<=i4/\i4<(x17.len:Nat))/\aA x17.a λa17=>κ.ex λxa7=>(∀ w',sx2 w'->Rd w' (a17.add (i4.toNat*κ.K)) (κ.f xa7))/\((aD prog κ.mark [.int .i64 k4,.int .i64 i4] w26.drew (aG R) λv12 w27=>κ.ex λxa8=>v12=(κ.val xa8)/\(sx2 w27/\(κ.cmp 2 (aG R) sx2 xa7 xa8 w27 (λw28=>κ.wr sx2 (λw=>R (.returned (.bool false)) w) w28) (λw28=>((0<=k4/\k4<(x2.len:Nat))/\aA x2.a λa18=>∃ x19:Slc,(∀ w',sx2 w'->Rd w' (a18.add (k4.toNat*1)) [.slice x19.a x19.len x19.cap])/\((0<=i4/\i4<(x19.len:Nat))/\aA x19.a λa19=>κ.ex λxa9=>(∀ w',sx2 w'->Rd w' (a19.add (i4.toNat*κ.K)) (κ.f xa9))/\((aD prog κ.mark [.int .i64 k4,.int .i64 i4] w28 (aG R) λv14 w29=>κ.ex λxa10=>v14=(κ.val xa10)/\(sx2 w29/\(κ.cmp 3 (aG R) sx2 xa9 xa10 w29 (λw30=>R (.returned (.bool false)) w30) (λw30=>(inv9 [.i .i64 (zW (i4+(1:Int)))] w30/\mu9 [.i .i64 (zW (i4+(1:Int)))] w30<mu9 [.i .i64 i4] w26)))))/\True)))))))/\True)))) ((inv8 [.i .i64 (zW (k4+(1:Int)))] w26/\mu8 [.i .i64 (zW (k4+(1:Int)))] w26<mu8 [.i .i64 k4] w25))))) (R (.returned (.bool true)) w25))))))))))
theorem qX {α:Type} {κ:rQ α} (hκ:nW κ) {w:World} {ls:Slc} {ss:List Slc} (hls:aK w ls 1 (ss.map Slc.val)) (hlb : ∀ k,k<ss.length->∀ x,(sl ss k).blk=some x->ls.blk≠some x)
 (ho : ∀ k,k<ss.length->(∃ vs,Sh.Own w (sl ss k) κ.K vs)/\(sl ss k).len<=1000000000) (hd : ∀ i j,i<ss.length->j<ss.length->i≠j->∀ x,(sl ss i).blk=some x->(sl ss j).blk≠some x) (hn:ss.length<=1000000) :
 qUP κ ls w (Ret λv w'=>v = .bool true/\Mod (UB ss) w w'):=by
 unfold qUP
 obtain ⟨is',hs1,hs2,hs3,hs4⟩:=hκ.it
 have uS:=hκ.ut
 have uE:=hκ.ue
 obtain ⟨ie',z,z0,bt,r9,s4,s5,hz,s6,gx⟩:=hκ.info
 have gj:z.cells.size=κ.K:=by rw [hz]; simp [hκ.len]
 have v1:=hκ.pos
 have gk : ∀ n,n<=3000000000->n*bt<=140737488355328:=λn hn=>Nat.le_trans (Nat.mul_le_mul hn gx) (by decide)
 have hN:ss.length=ls.len:=by have:=hls.1; simp at this; omega
 have p8 : ∀ w',Mod (UB ss) w w'->aK w' ls 1 (ss.map Slc.val):=λw' hm=>hls.mod hm λb hb ⟨k,hk,e⟩=>hlb k hk b e hb
 have gy : ∀ k,k<ss.length->∀ x,(sl ss k).blk=some x->x<w.heap.size:=λk hk x hx=>by obtain ⟨⟨vs,h⟩,_⟩:=ho k hk; exact h.lt hx
 have o8 : ∀ {a b:World} (k:Nat),k<ss.length->Mod (UB ss) w a->Mod (λx=>(sl ss k).blk=some x) a b->Mod (UB ss) w b:=λk hk h1 h2=>h1.trans h2 (λ_ _ h=>h) λx _ hx=>⟨k,hk,hx⟩
 refine ⟨λl' w'=>match l' with | [.i _ k]=>∃ k':Nat,k=k'/\k'<=ss.length/\(∀ j,j<k'->Sh.Own w' (sl ss j) κ.K (aR κ.f (mkg κ.m j (sl ss j).len)))/\(∀ j,k'<=j->j<ss.length->∃ vs,Sh.Own w' (sl ss j) κ.K vs)/\Mod (UB ss) w w' | _=>False,
  λl' _=>match l' with | [.i _ k]=>(ss.length - k).toNat | _=>0,⟨0,rfl,by omega,λj hj=>by omega,λj _ hj=>(ho j hj).1,Mod.refl _ _⟩,?_⟩
 rintro k w1 ⟨k',rfl,hk,v6,v7,o9⟩
 refine aC (λhlt=>?_) λhge=>?_
 ·have h9:k'<ss.length:=by simp at hlt; omega
  obtain ⟨la,el⟩:=rD hls (by omega)
  obtain ⟨l0,hl0⟩:=v7 k' (Nat.le_refl _) h9
  refine ⟨λl' w'=>match l' with | [.i _ i]=>∃ (i':Nat) (vs:List Value),i=i'/\i'<=(sl ss k').len/\Sh.Own w' (sl ss k') κ.K vs/\vs.take (i'*κ.K)=aR κ.f (mkg κ.m k' i')/\Mod (λx=>(sl ss k').blk=some x) w1 w' | _=>False,
   λl' _=>match l' with | [.i _ i]=>((sl ss k').len - i).toNat | _=>0,⟨0,l0,rfl,by omega,hl0,by simp [mkg,aR],Mod.refl _ _⟩,?_⟩
  rintro i w2 ⟨i',vs,rfl,hi,hvs,htk,z1⟩
  have hrl : ∀ w',Mod NoB w2 w'->Rd w' (la.add (k'*1)) [(sl ss k').val]:=λw' hm=>tW (p8 w2 (o8 k' h9 o9 z1)) el h9 hm
  have hlen:=(ho k' h9).2
  have gm:=hvs.1
  refine ⟨⟨by omega,by omega⟩,bY el ⟨sl ss k',hrl _ (Mod.refl _ _),aC (λhlt=>?_) λhge=>?_⟩⟩
  ·have k5:i'<(sl ss k').len:=by simp at hlt; omega
   obtain ⟨sa,es⟩:=tC hvs (by omega)
   refine ⟨λw'=>Mod NoB w2 w',Mod.drew _ _,⟨by omega,by omega⟩,bY el ⟨sl ss k',λw' e=>hrl _ e,?_,trivial⟩⟩
   refine aB hκ.mark ?_
   rintro v w3 ⟨rfl,gz⟩
   have p9:Mod NoB w2 w3:=(Mod.drew _ _).tr gz
   refine hκ.ex (κ.m k' i') ⟨rfl,p9,⟨by omega,by omega⟩,bY es ⟨?_,trivial⟩⟩
   refine lV (us:=κ.f (κ.m k' i')) (i:=i') hκ.se hκ.sz (hκ.cells _) (hκ.len _) (hκ.one _) (hvs.no p9) es k5 λw4 ja jb hs4=>?_
   rw [aI (by omega)]
   refine ⟨⟨i'+1,_,rfl,by omega,ja,?_,(z1.no' p9).tr jb⟩,by (try simp only []); omega⟩
   rw [qBG gm k5 (hκ.len _),htk,mkg,bP]
   simp [aR]
  ·have k5:i'=(sl ss k').len:=by simp at hge; omega
   rw [k5,List.take_of_length_le (by rw [gm]; exact Nat.le_refl _)] at htk
   subst htk
   rw [aI (by omega)]
   refine ⟨⟨k'+1,rfl,by omega,λj hj=>?_,λj jy gn=>?_,o8 k' h9 o9 z1⟩,by (try simp only []); omega⟩
   ·rcases Nat.lt_or_ge j k' with h | h
    ·exact (v6 j h).mod z1 λb hb u1=>hd j k' (by omega) h9 (by omega) b hb u1
    ·have:j=k':=by omega
     subst this; exact hvs
   ·obtain ⟨vs',h⟩:=v7 j (by omega) gn
    exact ⟨vs',h.mod z1 λb hb u1=>hd j k' gn h9 (by omega) b hb u1⟩
 have y0:k'=ss.length:=by simp at hge; omega
 subst y0
 refine bW (l:=ls.len) (c:=ls.len) uS hs1 hs2 hs3 rfl hs4 rfl rfl (by omega) (by omega) (by omega) λG w5 r0 jz jc=>⟨⟨some ⟨G,0,none⟩,ls.len,ls.len⟩,rfl,?_⟩
 have jd:=r0.at_; have je:=r0.size
 have jf:Mod (UB ss) w w5:=o9.no' r0.mod
 have kd:w.heap.size<=G:=by have:=o9.size; omega
 have z6 : ∀ k,k<ss.length->∀ x,(sl ss k).blk=some x->x<G:=λk hk x hx=>by have:=gy k hk x hx; omega
 have hgb : ∀ x,Slc.blk ⟨some ⟨G,0,none⟩,ls.len,ls.len⟩=some x->x=G:=λx hx=>by rw [Slc.blk_mk] at hx; split at hx <;> simp_all
 have s7:Sh.Own w5 ⟨some ⟨G,0,none⟩,ls.len,ls.len⟩ 1 ((List.replicate ss.length (⟨none,0,0⟩:Slc)).map Slc.val):=by rw [List.map_replicate,hN]; exact jc
 have hstore : ∀ (k:Nat) (gl:List Slc) (g:Slc) (wk w7:World) (K:zP),k<ss.length->gl.length=ss.length->Sh.Own w7 ⟨some ⟨G,0,none⟩,ls.len,ls.len⟩ 1 (gl.map Slc.val)->
  (∀ w',Sh.Own w' ⟨some ⟨G,0,none⟩,ls.len,ls.len⟩ 1 ((gl.set k g).map Slc.val)->Mod (λx=>x=G) w7 w'->K w')->aJ prog (storeVar κ.t ((⟨G,0,none⟩:Addr).add (k*1)) (.slice g.a g.len g.cap)) w7 K:=by
  intro k gl g wk w7 K hk hgl hgo hK
  refine iC (s:=⟨some ⟨G,0,none⟩,ls.len,ls.len⟩) (i:=k) hκ.st hκ.s1 rfl hgo rfl (by simp only []; omega) λw' jg jh ke=>hK w' ?_ (jh.mono λx _ hx=>hgb x hx)
  rw [List.map_set]; exact jg
 have hkeep : ∀ (k j:Nat) (g:Slc) (l:List (α)) (wa wb:World),k<ss.length->j<ss.length->j≠k->kY κ.f κ.K w5.heap.size wa (sl ss j) g l->Mod (λx=>(sl ss k).blk=some x) wa wb->kY κ.f κ.K w5.heap.size wb (sl ss j) g l:=by
  intro k j g l wa wb hk hj hjk ⟨h1,h2⟩ hm
  refine ⟨h1.mod hm λb hb u1=>?_,h2⟩
  rcases h2 with h2 | ⟨b',e,hb'2⟩
  ·rw [h2] at hb; exact hd j k hj hk hjk b hb u1
  ·rw [e] at hb; cases hb
   have:=z6 k hk _ u1; omega
 have hkeepG : ∀ (j:Nat) (g:Slc) (l:List (α)) (wa wb:World),j<ss.length->kY κ.f κ.K w5.heap.size wa (sl ss j) g l->Mod (λx=>x=G) wa wb->kY κ.f κ.K w5.heap.size wb (sl ss j) g l:=by
  intro j g l wa wb hj ⟨h1,h2⟩ hm
  refine ⟨h1.mod hm λb hb u1=>?_,h2⟩
  subst u1
  rcases h2 with h2 | ⟨b',e,hb'2⟩
  ·rw [h2] at hb; have:=z6 j hj _ hb; omega
  ·rw [e] at hb; cases hb; omega
 have hkeepS : ∀ (j:Nat) (vs:List Value) (wa wb:World),j<ss.length->Sh.Own wa (sl ss j) κ.K vs->Mod (λx=>x=G) wa wb->Sh.Own wb (sl ss j) κ.K vs:=λj vs wa wb hj h hm=>h.mod hm λb hb e=>by have:=z6 j hj b hb; omega
 have hkeepR : ∀ (k:Nat) (vs:List Value) (wa wb:World),k<ss.length->Sh.Own wa ⟨some ⟨G,0,none⟩,ls.len,ls.len⟩ 1 vs->Mod (λx=>(sl ss k).blk=some x) wa wb->Sh.Own wb ⟨some ⟨G,0,none⟩,ls.len,ls.len⟩ 1 vs:=λk vs wa wb hk h hm=>h.mod hm λb hb e=>by have:=z6 k hk b e; have:=hgb b hb; omega
 have gp : ∀ {a b:World},Mod (UB ss) w a->Mod (λx=>x=G) a b->Mod (UB ss) w b:=λh1 h2=>h1.fresh h2 λx e=>by omega
 refine ⟨λl' w'=>match l' with | [.i _ k]=>∃ (k':Nat) (gl:List Slc),k=k'/\k'<=ss.length/\gl.length=ss.length/\Sh.Own w' ⟨some ⟨G,0,none⟩,ls.len,ls.len⟩ 1 (gl.map Slc.val)/\(∀ j,j<k'->kY κ.f κ.K w5.heap.size w' (sl ss j) (sl gl j) (mkg κ.m j ((sl ss j).len+64))/\(sl gl j).len=(sl ss j).len+64)/\(∀ j,j<ss.length->Sh.Own w' (sl ss j) κ.K (aR κ.f (mkg κ.m j (sl ss j).len)))/\Mod (UB ss) w w'/\w5.heap.size<=w'.heap.size | _=>False,
  λl' _=>match l' with | [.i _ k]=>(ss.length - k).toNat | _=>0,⟨0,_,rfl,by omega,by simp,s7,λj hj=>by omega,λj hj=>(v6 j hj).no r0.mod,jf,Nat.le_refl _⟩,?_⟩
 rintro k w6 ⟨k',gl,rfl,hk,hgl,hgo,gq,y2,r7,jj⟩
 refine aC (λhlt=>?_) λhge=>?_
 ·have h9:k'<ss.length:=by simp at hlt; omega
  obtain ⟨la,el⟩:=rD hls (by omega)
  have hlen:=(ho k' h9).2
  refine ⟨⟨by omega,by omega⟩,bY el ⟨sl ss k',tW (p8 w6 r7) el h9 (Mod.refl _ _),?_⟩⟩
  refine ⟨λl' w'=>match l' with | [.sl g,.i _ i]=>∃ i':Nat,i=i'/\i'<=64/\Sh.Own w' g κ.K (aR κ.f (mkg κ.m k' ((sl ss k').len+i')))/\Sh.Own w' (sl ss k') κ.K (aR κ.f (mkg κ.m k' (sl ss k').len))/\((g.a=(sl ss k').a/\g.cap=(sl ss k').cap)\/∃ b,g.blk=some b/\w6.heap.size<=b)/\Mod (λx=>(sl ss k').blk=some x) w6 w' | _=>False,
   λl' _=>match l' with | [.sl g,.i _ i]=>(64 - i).toNat | _=>0,⟨0,rfl,by omega,y2 k' h9,y2 k' h9,.inl ⟨rfl,rfl⟩,Mod.refl _ _⟩,?_⟩
  rintro g i w7 ⟨i',rfl,hi,hg,hs,q8,y5⟩
  have gr:=o8 k' h9 r7 y5
  have y1:=bA hκ.len v1 hg.rd
  rw [vE] at y1
  refine aC (λhlt=>?_) λhge=>?_
  ·have k5:i'<64:=by simp at hlt; omega
   refine ⟨⟨by omega,by omega⟩,bY el ⟨sl ss k',tW (p8 w7 gr) el h9 (Mod.refl _ _),?_⟩⟩
   rw [show zW (((sl ss k').len:Int)+(i':Int))=(((sl ss k').len+i':Nat):Int) by rw [wrap_i64 (by omega)]; omega,aI (by omega)]
   refine aB hκ.mark ?_
   rintro v w8 ⟨rfl,hmk⟩
   have u4:=y5.no' hmk
   have z7:aR κ.f (mkg κ.m k' ((sl ss k').len+i'))++κ.f (κ.m k' (((sl ss k').len+i':Nat):Int))=aR κ.f (mkg κ.m k' ((sl ss k').len+i'+1)):=by
    rw [mkg,bP]; simp [aR]
   refine hκ.ex (κ.m k' (((sl ss k').len+i':Nat):Int)) ⟨rfl,jP (f:=κ.f) (c:=κ.m k' (((sl ss k').len+i':Nat):Int)) uE r9 s4 s5 gj s6 (hκ.cells _) (hκ.len _) v1 hκ.small (hκ.one _) (hg.no hmk) (gk _ (by omega)) (by omega) (λw9 jk y7 y8=>?_) λb cp w9 jk hb y7 jm y8=>?_⟩
   ·rw [z7] at y7
    refine ⟨⟨i'+1,rfl,by omega,y7,?_,?_,?_⟩,by (try simp only []); omega⟩
    ·rcases q8 with ⟨e1,e2⟩ | ⟨b,e,hb⟩
     ·have:=y7.take (n:=(sl ss k').len) (by simp only []; omega)
      rw [kC hκ.len (by rw [vE]; omega),qII k' (by omega)] at this
      rw [e1,e2] at this
      exact this
     ·exact (hs.no hmk).mod y8 λx hx gu=>by
       rw [e] at gu; cases gu
       have:=z6 k' h9 _ hx
       omega
    ·rcases q8 with ⟨e1,e2⟩ | ⟨b,e,hb⟩
     ·exact .inl ⟨e1,e2⟩
     ·exact .inr ⟨b,by rw [<-e]; exact mG rfl rfl,hb⟩
    ·rcases q8 with ⟨e1,e2⟩ | ⟨b,e,hb⟩
     ·exact u4.tr (y8.mono λx _ hx=>by rw [<-hx]; exact (mG e1 e2).symm)
     ·exact u4.fresh y8 λx hx=>by rw [e] at hx; cases hx; exact hb
   ·rw [z7] at y7
    refine ⟨⟨i'+1,rfl,by omega,y7,(hs.no hmk).no y8,.inr ⟨b,Slc.blk_of rfl (by simp only []; omega),Nat.le_trans u4.size hb⟩,u4.no' y8⟩,by (try simp only []); omega⟩
  ·have k5:i'=64:=by simp at hge; omega
   subst k5
   refine ⟨⟨by omega,by simp only []; omega⟩,?_⟩
   refine hstore k' gl g w6 w7 _ h9 hgl (hkeepR k' _ w6 w7 h9 hgo y5) λw8 jp y9=>?_
   rw [aI (by omega)]
   have s8:kY κ.f κ.K w5.heap.size w7 (sl ss k') g (mkg κ.m k' ((sl ss k').len+64)):=⟨hg,q8.imp (λ⟨e1,e2⟩=>mG e1 e2) λ⟨b,e,hb⟩=>⟨b,e,by omega⟩⟩
   refine ⟨⟨k'+1,gl.set k' g,rfl,by omega,by simp [hgl],jp,λj hj=>?_,λj hj=>?_,gp gr y9,by have:=y9.size; have:=y5.size; omega⟩,by (try simp only []); omega⟩
   ·rw [qIO (by omega)]
    split
    ·next e=>subst e; exact ⟨hkeepG _ _ _ w7 w8 h9 s8 y9,by omega⟩
    ·next e=>
     obtain ⟨q1,q2⟩:=gq j (by omega)
     exact ⟨hkeepG _ _ _ w7 w8 (by omega) (hkeep k' j _ _ w6 w7 h9 (by omega) (by omega) q1 y5) y9,q2⟩
   ·by_cases e:j=k'
    ·subst e; exact hkeepS _ _ w7 w8 h9 hs y9
    ·exact hkeepS _ _ w7 w8 hj ((y2 j hj).mod y5 λb hb u1=>hd j k' hj h9 e b hb u1) y9
 have y0:k'=ss.length:=by simp at hge; omega
 subst y0
 refine ⟨λl' w'=>match l' with | [.i _ k]=>∃ k':Nat,k=k'/\k'<=ss.length/\Mod NoB w6 w' | _=>False,λl' _=>match l' with | [.i _ k]=>(ss.length - k).toNat | _=>0,⟨0,rfl,by omega,Mod.refl _ _⟩,?_⟩
 rintro k jq ⟨k',rfl,hk,u2⟩
 refine aC (λhlt=>?_) λhge=>?_
 ·have h9:k'<ss.length:=by simp at hlt; omega
  obtain ⟨la,el⟩:=rD hls (by omega)
  have hlen:=(ho k' h9).2
  obtain ⟨⟨q1,q2⟩,q3⟩:=gq k' h9
  refine ⟨λl' w'=>match l' with | [.i _ i]=>∃ i':Nat,i=i'/\i'<=(sl ss k').len+64/\Mod NoB w6 w' | _=>False,λl' _=>match l' with | [.i _ i]=>((sl ss k').len+64 - i).toNat | _=>0,⟨0,rfl,by omega,u2⟩,?_⟩
  rintro i kg ⟨i',rfl,hi,u5⟩
  have hrg : ∀ w',Mod NoB w6 w'->Rd w' ((⟨G,0,none⟩:Addr).add (k'*1)) [(sl gl k').val]:=λw' hm=>tW hgo.rd rfl (by omega) hm
  have hrl : ∀ w',Mod NoB w6 w'->Rd w' (la.add (k'*1)) [(sl ss k').val]:=λw' hm=>tW (p8 w6 r7) el h9 hm
  refine ⟨⟨by omega,by simp only []; omega⟩,sl gl k',hrg _ u5,aC (λhlt=>?_) λhge=>?_⟩
  ·have k5:i'<(sl ss k').len+64:=by simp at hlt; omega
   obtain ⟨ga,eg⟩:=tC q1 (by omega)
   refine ⟨λw'=>Mod NoB w6 w',u5.dr,⟨by omega,by simp only []; omega⟩,sl gl k',λw' e=>hrg _ e,⟨by omega,by omega⟩,bY eg (hκ.ex (κ.m k' i') ⟨λw' e=>rd_c (f:=κ.f) (K:=κ.K) (i:=i') (c:=κ.m k' i') hκ.len v1 q1.rd eg (pH k' _ i' k5) e,?_,trivial⟩)⟩
   refine aB hκ.mark ?_
   rintro v jr ⟨rfl,z8⟩
   have j2:Mod NoB w6 jr:=u5.dr.tr z8
   refine hκ.ex (κ.m k' i') ⟨rfl,j2,hκ.cmp 0 k' i' _ λkj j3=>?_⟩
   have u6:=j2.tr j3
   refine ⟨u6,?_⟩
   have v8 : ∀ w',Mod NoB w6 w'->(∃ i'':Nat,zW ((i':Int)+1)=i''/\i''<=(sl ss k').len+64/\Mod NoB w6 w')/\((sl ss k').len+64 - zW ((i':Int)+1)).toNat<((sl ss k').len+64 - (i':Int)).toNat:=λw' hm=>by
    rw [aI (by omega)]; exact ⟨⟨i'+1,rfl,by omega,hm⟩,by omega⟩
   refine ⟨⟨by omega,by omega⟩,bY el ⟨sl ss k',λw' e=>hrl _ e,aC (λhlt=>?_) λhge=>hκ.wr u6 (v8 _ u6)⟩⟩
   have js:i'<(sl ss k').len:=by simp at hlt; omega
   obtain ⟨sa,es⟩:=tC (y2 k' h9) (by omega)
   refine ⟨⟨by omega,by omega⟩,bY el ⟨sl ss k',λw' e=>hrl _ e,⟨by omega,by omega⟩,bY es (hκ.ex (κ.m k' i') ⟨λw' e=>rd_c (f:=κ.f) (K:=κ.K) (i:=i') (c:=κ.m k' i') hκ.len v1 (y2 k' h9).rd es (pH k' _ i' js) e,?_,trivial⟩)⟩⟩
   refine aB hκ.mark ?_
   rintro v q9 ⟨rfl,j4⟩
   have k6:=u6.tr j4
   refine hκ.ex (κ.m k' i') ⟨rfl,k6,hκ.cmp 1 k' i' _ λju j5=>?_⟩
   have j6:=k6.tr j5
   refine ⟨j6,?_⟩
   exact v8 _ j6
  ·rw [aI (by omega)]
   exact ⟨⟨k'+1,rfl,by omega,u5⟩,by (try simp only []); omega⟩
 have y0:k'=ss.length:=by simp at hge; omega
 subst y0
 have b5:=λj hj=>(y2 j hj).no u2
 have s9:Mod (UB ss) w jq:=r7.no' u2
 refine ⟨λl' w'=>match l' with | [.i _ k]=>∃ (k':Nat) (gl:List Slc),k=k'/\k'<=ss.length/\gl.length=ss.length/\Sh.Own w' ⟨some ⟨G,0,none⟩,ls.len,ls.len⟩ 1 (gl.map Slc.val)/\(∀ j,j<k'->∃ l:List (α),kY κ.f κ.K w5.heap.size w' (sl ss j) (sl gl j) (mkg κ.m j (sl ss j).len++l)/\(sl ss j).len<=(sl gl j).len)/\(∀ j,j<ss.length->Sh.Own w' (sl ss j) κ.K (aR κ.f (mkg κ.m j (sl ss j).len)))/\Mod (UB ss) w w'/\w5.heap.size<=w'.heap.size | _=>False,
  λl' _=>match l' with | [.i _ k]=>(ss.length - k).toNat | _=>0,⟨0,gl,rfl,by omega,hgl,hgo.no u2,λj hj=>by omega,b5,s9,Nat.le_trans jj u2.size⟩,?_⟩
 rintro k q9 ⟨k',r8,rfl,hk,b6,a6,a7,u7,k6,gb⟩
 refine aC (λhlt=>?_) λhge=>?_
 ·have h9:k'<ss.length:=by simp at hlt; omega
  obtain ⟨la,el⟩:=rD hls (by omega)
  have hlen:=(ho k' h9).2
  refine iP (f:=κ.f) (z0:=z0) (l:=64) (c:=64) uE r9 s4 s5 hz (hκ.len _) v1 s6 rfl rfl (by omega) (by omega) (by omega) (by omega) λm ju a8 gf=>⟨⟨some ⟨m,0,none⟩,64,64⟩,rfl,?_⟩
  have gv:=a8.at_
  have jv : ∀ x,Slc.blk ⟨some ⟨m,0,none⟩,64,64⟩=some x->x=m:=λx hx=>by rw [Slc.blk_mk] at hx; simp at hx; omega
  refine ⟨λl' w'=>match l' with | [.i _ i]=>∃ (i':Nat) (l:List (α)),i=i'/\i'<=64/\l.length=64/\Sh.Own w' ⟨some ⟨m,0,none⟩,64,64⟩ κ.K (aR κ.f l)/\Mod NoB q9 w' | _=>False,λl' _=>match l' with | [.i _ i]=>(64 - i).toNat | _=>0,
   ⟨0,List.replicate 64 z0,rfl,by omega,by simp,gf,a8.mod⟩,?_⟩
  rintro i gw ⟨i',l,rfl,hi,hll,hlo,t6⟩
  refine aC (λhlt=>?_) λhge=>?_
  ·have k5:i'<64:=by simp at hlt; omega
   refine aB hκ.mark ?_
   rintro v kp ⟨rfl,i6⟩
   refine hκ.ex (κ.m (zW ((k':Int)+(ls.len:Int))) i') ⟨rfl,⟨by omega,by simp only []; omega⟩,?_⟩
   refine lV (us:=κ.f (κ.m (zW ((k':Int)+(ls.len:Int))) i')) (s:=⟨some ⟨m,0,none⟩,64,64⟩) (i:=i') hκ.se hκ.sz (hκ.cells _) (hκ.len _) (hκ.one _) (hlo.no i6) rfl k5 λkq i7 gg jw=>?_
   rw [aI (by omega)]
   rw [pI hκ.len (by omega)] at i7
   exact ⟨⟨i'+1,_,rfl,by omega,by simp [hll],i7,(t6.tr i6).fresh gg λx hx=>by have:=jv x hx; omega⟩,by (try simp only []); omega⟩
  ·refine ⟨⟨by omega,by omega⟩,bY el ⟨sl ss k',tW (p8 gw (k6.no' t6)) el h9 (Mod.refl _ _),?_⟩⟩
   have i8:=(u7 k' h9).no t6
   have fin : ∀ (g:Slc) (k4:World),Sh.Own k4 g κ.K (aR κ.f (mkg κ.m k' (sl ss k').len++l))->Sh.Own k4 (sl ss k') κ.K (aR κ.f (mkg κ.m k' (sl ss k').len))->(g.blk=(sl ss k').blk\/∃ b,g.blk=some b/\w5.heap.size<=b)->Mod (λx=>(sl ss k').blk=some x) q9 k4->
    aJ prog (storeVar κ.t ((⟨G,0,none⟩:Addr).add (k'*1)) (.slice g.a g.len g.cap)) k4 λu3=>(∃ (k'':Nat) (gl:List Slc),zW ((k':Int)+1)=k''/\k''<=ss.length/\gl.length=ss.length/\Sh.Own u3 ⟨some ⟨G,0,none⟩,ls.len,ls.len⟩ 1 (gl.map Slc.val)/\(∀ j,j<k''->∃ l:List (α),kY κ.f κ.K w5.heap.size u3 (sl ss j) (sl gl j) (mkg κ.m j (sl ss j).len++l)/\(sl ss j).len<=(sl gl j).len)/\(∀ j,j<ss.length->Sh.Own u3 (sl ss j) κ.K (aR κ.f (mkg κ.m j (sl ss j).len)))/\Mod (UB ss) w u3/\w5.heap.size<=u3.heap.size)/\((ss.length:Int) - zW ((k':Int)+1)).toNat<((ss.length:Int) - (k':Int)).toNat:=by
    intro g k4 hg hs q8 k3
    have y1:=bA hκ.len v1 hg.rd
    simp at y1
    refine hstore k' r8 g q9 k4 _ h9 b6 (hkeepR k' _ q9 k4 h9 a6 k3) λu3 gh t7=>?_
    rw [aI (by omega)]
    refine ⟨⟨k'+1,r8.set k' g,rfl,by omega,by simp [b6],gh,λj hj=>?_,λj hj=>?_,gp (o8 k' h9 k6 k3) t7,by have:=k3.size; have:=t7.size; omega⟩,by omega⟩
    ·rw [qIO (by omega)]
     split
     ·next e=>subst e; exact ⟨l,hkeepG _ _ _ k4 u3 h9 ⟨hg,q8⟩ t7,by omega⟩
     ·next e=>
      obtain ⟨l',q1,q2⟩:=a7 j (by omega)
      exact ⟨l',hkeepG _ _ _ k4 u3 (by omega) (hkeep k' j _ _ q9 k4 h9 (by omega) (by omega) q1 k3) t7,q2⟩
    ·by_cases e:j=k'
     ·subst e; exact hkeepS _ _ k4 u3 h9 hs t7
     ·exact hkeepS _ _ k4 u3 hj ((u7 j hj).mod k3 λb hb u1=>hd j k' hj h9 e b hb u1) t7
   refine pW (x:=⟨some ⟨m,0,none⟩,64,64⟩) uE r9 s4 s5 gj s6 i8 hlo.rd (dF hκ.one _) (gk _ (by simp only []; omega)) (by simp only []; omega) (λ_ k4 u0 k3 _=>⟨⟨(sl ss k').a,(sl ss k').len+64,(sl ss k').cap⟩,rfl,⟨by omega,by simp only []; omega⟩,?_⟩) λhc cp k4 u0 jm k3 _=>⟨⟨some ⟨gw.heap.size,0,none⟩,(sl ss k').len+64,cp⟩,rfl,⟨by omega,by simp only []; omega⟩,?_⟩
   ·rw [<-bP] at u0
    refine fin ⟨(sl ss k').a,(sl ss k').len+64,(sl ss k').cap⟩ k4 u0 ?_ (.inl (mG rfl rfl)) (t6.no k3)
    have:=u0.take (n:=(sl ss k').len) (by simp only []; omega)
    rw [kC hκ.len (by simp),List.take_append_of_le_length (by simp),List.take_of_length_le (by simp)] at this
    exact this
   ·rw [<-bP] at u0
    exact fin _ k4 u0 (i8.no k3) (.inr ⟨_,Slc.blk_of rfl (by simp only []; omega),Nat.le_trans gb t6.size⟩) ((t6.tr k3).mono λ_ _ h=>h.elim)
 have y0:k'=ss.length:=by simp at hge; omega
 subst y0
 refine ⟨λl' w'=>match l' with | [.i _ k]=>∃ k':Nat,k=k'/\k'<=ss.length/\Mod NoB q9 w' | _=>False,λl' _=>match l' with | [.i _ k]=>(ss.length - k).toNat | _=>0,⟨0,rfl,by omega,Mod.refl _ _⟩,?_⟩
 rintro k kr ⟨k',rfl,hk,p9⟩
 refine aC (λhlt=>?_) λhge=>⟨rfl,k6.no' p9⟩
 have h9:k'<ss.length:=by simp at hlt; omega
 obtain ⟨la,el⟩:=rD hls (by omega)
 have hlen:=(ho k' h9).2
 obtain ⟨l,⟨q1,q2⟩,q3⟩:=a7 k' h9
 refine ⟨λl' w'=>match l' with | [.i _ i]=>∃ i':Nat,i=i'/\i'<=(sl ss k').len/\Mod NoB q9 w' | _=>False,λl' _=>match l' with | [.i _ i]=>((sl ss k').len - i).toNat | _=>0,⟨0,rfl,by omega,p9⟩,?_⟩
 rintro i kt ⟨i',rfl,hi,u9⟩
 have hrg : ∀ w',Mod NoB q9 w'->Rd w' ((⟨G,0,none⟩:Addr).add (k'*1)) [(sl r8 k').val]:=λw' hm=>tW a6.rd rfl (by omega) hm
 have hrl : ∀ w',Mod NoB q9 w'->Rd w' (la.add (k'*1)) [(sl ss k').val]:=λw' hm=>tW (p8 q9 k6) el h9 hm
 refine ⟨⟨by omega,by omega⟩,bY el ⟨sl ss k',hrl _ u9,aC (λhlt=>?_) λhge=>?_⟩⟩
 ·have k5:i'<(sl ss k').len:=by simp at hlt; omega
  obtain ⟨sa,es⟩:=tC (u7 k' h9) (by omega)
  obtain ⟨ga,eg⟩:=tC q1 (by omega)
  refine ⟨λw'=>Mod NoB q9 w',u9.dr,⟨by omega,by omega⟩,bY el ⟨sl ss k',λw' e=>hrl _ e,⟨by omega,by omega⟩,bY es (hκ.ex (κ.m k' i') ⟨λw' e=>rd_c (f:=κ.f) (K:=κ.K) (i:=i') (c:=κ.m k' i') hκ.len v1 (u7 k' h9).rd es (pH k' _ i' k5) e,?_,trivial⟩)⟩⟩
  refine aB hκ.mark ?_
  rintro v jx ⟨rfl,o0⟩
  have o1:Mod NoB q9 jx:=u9.dr.tr o0
  refine hκ.ex (κ.m k' i') ⟨rfl,o1,hκ.cmp 2 k' i' _ λku o2=>?_⟩
  have o3:=o1.tr o2
  refine ⟨o3,?_⟩
  refine ⟨⟨by omega,by simp only []; omega⟩,sl r8 k',λw' e=>hrg _ e,⟨by omega,by omega⟩,bY eg (hκ.ex (κ.m k' i') ⟨λw' e=>rd_c (f:=κ.f) (K:=κ.K) (i:=i') (c:=κ.m k' i') hκ.len v1 q1.rd eg (by rw [List.getElem?_append_left (by simpa using k5)]; exact pH k' _ i' k5) e,?_,trivial⟩)⟩
  refine aB hκ.mark ?_
  rintro v kv ⟨rfl,o4⟩
  have o5:=o3.tr o4
  refine hκ.ex (κ.m k' i') ⟨rfl,o5,hκ.cmp 3 k' i' _ λkw o6=>?_⟩
  have o7:=o5.tr o6
  refine ⟨o7,?_⟩
  rw [aI (by omega)]
  exact ⟨⟨i'+1,rfl,by omega,o7⟩,by (try simp only []); omega⟩
 ·rw [aI (by omega)]
  exact ⟨⟨k'+1,rfl,by omega,u9⟩,by (try simp only []); omega⟩
def dO1:Nat->Operand
 | 0=>.tmp 94
 | 1=>.tmp 115
 | 2=>.tmp 173
 | _=>.tmp 186
def dO2:Nat->Operand
 | 0=>.tmp 97
 | 1=>.tmp 118
 | 2=>.tmp 176
 | _=>.tmp 189
def kB:rQ (UInt8):={K:=1,f:=λc=>[.int .u8 c.toNat],val:=λc=>.int .u8 c.toNat,m:=mb,ex:=λQ=>∃ x:UInt8,Q x,mark:=115,e:=5,t:=38,tt:=77,cmp:=λ_ _ sx a b w KF KT=>aE (!(a==b)) (KF w) (KT w),wr:=λsx K w=>(sx w/\K w)/\True}
theorem jGJ:nW kB where
 pos:=by decide
 small:=by decide
 len _:=rfl
 one x v hv:=by simp only [kB,List.mem_singleton] at hv; subst hv; rfl
 cells _:=rfl
 ex c h:=⟨c,h⟩
 mark {w k i}:=oW nE λv w' ⟨h1,h2⟩=>⟨h1,h2 ▸ Mod.refl _ _⟩
 cmp s k i w h:=aC (λe=>by simp at e) λ_=>(h w (Mod.refl _ _)).2
 wr h1 h2:=⟨⟨h1,h2⟩,trivial⟩
 info:=by obtain ⟨i,h1,h2,h3,h4⟩:=i5; exact ⟨i,_,(0:UInt8),1,h1,h2,h3,rfl,h4,by decide⟩
 it:=i26
 ue:=by kernel_rfl
 ut:=by kernel_rfl
 se:=by kernel_rfl
 sz:=by kernel_rfl
 st:=by kernel_rfl
 s1:=by kernel_rfl
theorem yS {w:World} {ls:Slc} {ss:List Slc} (hls:aK w ls 1 (ss.map Slc.val)) (hlb : ∀ k,k<ss.length->∀ x,(sl ss k).blk=some x->ls.blk≠some x)
 (ho : ∀ k,k<ss.length->(∃ vs,Sh.Own w (sl ss k) 1 vs)/\(sl ss k).len<=1000000000) (hd : ∀ i j,i<ss.length->j<ss.length->i≠j->∀ x,(sl ss i).blk=some x->(sl ss j).blk≠some x) (hn:ss.length<=1000000) :
 Calls prog 78 #[.slice ls.a ls.len ls.cap] w (Ret λv w'=>v = .bool true/\Mod (UB ss) w w'):=
 dE (q0 .z (q0 (q0 .z (.block none (.loop [(3,(.i .i64))] (q0 (q0 .z (.cond .z .z)) (q0 (.block none (q0 .z (.block none (.loop [(4,(.i .i64))] (q0 (q0 .z (.cond .z .z)) (q0 (.block none (.draw 1 (.take 0 (.take 1 (.take 2 (.take 4 (.take 5 (.take 6 (.take 3 (.all [(7,(.take 8 (.all [(9,.done)])))])))))))))) .z)))))) .z))))) (q0 .z (q0 (q0 .z (.block none (.loop [(6,(.i .i64))] (q0 (q0 .z (.cond .z .z)) (q0 (.block none (q0 .z (q0 (q0 .z (.block none (.loop [(7,.sl),(8,(.i .i64))] (q0 (q0 .z (.cond .z .z)) (q0 (.block none .z) .z))))) .z))) .z))))) (q0 (q0 .z (.block none (.loop [(9,(.i .i64))] (q0 (q0 .z (.cond .z .z)) (q0 (.block none (q0 .z (.block none (.loop [(10,(.i .i64))] (q0 (q0 .z (.cond .z .z)) (q0 (.block none (q0 (.draw 1 (.take 0 (.take 1 (.take 2 (.take 4 (.take 7 (.take 8 (.take 3 (.take 5 (.take 6 (.all [(9,(.take 10 (.take 11 (.take 12 (.take 13 (.take 14 (.take 15 (.take 16 (.take 17 (.take 18 (.take 19 (.take 20 (.take 21 (.take 22 (.take 23 (.take 25 (.take 28 (.take 29 (.take 24 (.take 26 (.take 27 (.all [(30,(.take 31 (.take 32 (.take 33 (.take 34 .done)))))]))))))))))))))))))))))]))))))))))) (.cond (q0 .z .z) .z))) .z)))))) .z))))) (q0 (q0 .z (.block none (.loop [(11,(.i .i64))] (q0 (q0 .z (.cond .z .z)) (q0 (.block none (q0 .z (q0 (q0 .z (.block none (.loop [(13,(.i .i64))] (q0 (q0 .z (.cond .z .z)) (q0 (.block none .z) .z))))) .z))) .z))))) (q0 (q0 .z (.block none (.loop [(14,(.i .i64))] (q0 (q0 .z (.cond .z .z)) (q0 (.block none (q0 .z (.block none (.loop [(15,(.i .i64))] (q0 (q0 .z (.cond .z .z)) (q0 (.block none (q0 (.draw 1 (.take 0 (.take 1 (.take 2 (.take 4 (.take 7 (.take 8 (.take 3 (.take 5 (.take 6 (.all [(9,(.take 10 (.take 11 (.take 12 (.take 13 (.take 14 (.take 15 (.take 17 (.take 20 (.take 21 (.take 16 (.take 18 (.take 19 (.all [(22,(.take 23 (.take 24 (.take 25 .done))))]))))))))))))))]))))))))))) (.cond (q0 .z .z) .z))) .z)))))) .z))))) (q0 .z .z)))))))) func78 (by kernel_rfl) [.sl ls] (by kernel_rfl) (by kernel_rfl) (qX jGJ hls hlb ho hd hn)
def kD:rQ (Int×Int):={K:=2,f:=fF,val:=λd=>.agg #[.int .i64 d.1,.int .i64 d.2],m:=mD,ex:=λQ=>∃ a b:Int,Q (a,b),mark:=114,e:=52,t:=37,tt:=80,wr:=λsx K w=>(sx w/\K w)/\True,cmp:=λs pan sx a b w KF KT=>bB prog (do eqGuard .eql 52 (dO1 s) (dO2 s) (.agg #[.int .i64 a.1,.int .i64 a.2]) (.agg #[.int .i64 b.1,.int .i64 b.2]); binOp .eql 52 (.agg #[.int .i64 a.1,.int .i64 a.2]) (.agg #[.int .i64 b.1,.int .i64 b.2])) λv=>∃ x:Bool,v=(.bool x)/\aE (!x) (KF w) (KT w)}
theorem jFS:nW kD where
 pos:=by decide
 small:=by decide
 len _:=rfl
 one:=pO
 cells _:=rfl
 ex c h:=⟨c.1,c.2,h⟩
 mark:=pP
 cmp s k i w h:=vM ⟨_,rfl,aC (λe=>by simp at e) λ_=>(h w (Mod.refl _ _)).2⟩
 wr h1 h2:=⟨⟨h1,h2⟩,trivial⟩
 info:=by obtain ⟨i,h1,h2,h3,h4⟩:=qI; exact ⟨i,_,((0,0):Int×Int),16,h1,h2,h3,rfl,h4,by decide⟩
 it:=bC (by kernel_rfl) (by kernel_rfl) (by kernel_rfl)
 ue:=by kernel_rfl
 ut:=by kernel_rfl
 se:=by kernel_rfl
 sz:=by kernel_rfl
 st:=by kernel_rfl
 s1:=by kernel_rfl
theorem zQ {w:World} {ls:Slc} {ss:List Slc} (hls:aK w ls 1 (ss.map Slc.val)) (hlb : ∀ k,k<ss.length->∀ x,(sl ss k).blk=some x->ls.blk≠some x)
 (ho : ∀ k,k<ss.length->(∃ vs,Sh.Own w (sl ss k) 2 vs)/\(sl ss k).len<=1000000000) (hd : ∀ i j,i<ss.length->j<ss.length->i≠j->∀ x,(sl ss i).blk=some x->(sl ss j).blk≠some x) (hn:ss.length<=1000000) :
 Calls prog 81 #[.slice ls.a ls.len ls.cap] w (Ret λv w'=>v = .bool true/\Mod (UB ss) w w'):=
 dE (q0 .z (q0 (q0 .z (.block none (.loop [(3,(.i .i64))] (q0 (q0 .z (.cond .z .z)) (q0 (.block none (q0 .z (.block none (.loop [(4,(.i .i64))] (q0 (q0 .z (.cond .z .z)) (q0 (.block none (.draw 1 (.take 0 (.take 1 (.take 2 (.take 4 (.take 5 (.take 6 (.take 3 (.all [(7,(.take 8 (.all [(9,.done)])))])))))))))) .z)))))) .z))))) (q0 .z (q0 (q0 .z (.block none (.loop [(6,(.i .i64))] (q0 (q0 .z (.cond .z .z)) (q0 (.block none (q0 .z (q0 (q0 .z (.block none (.loop [(7,.sl),(8,(.i .i64))] (q0 (q0 .z (.cond .z .z)) (q0 (.block none .z) .z))))) .z))) .z))))) (q0 (q0 .z (.block none (.loop [(9,(.i .i64))] (q0 (q0 .z (.cond .z .z)) (q0 (.block none (q0 .z (.block none (.loop [(10,(.i .i64))] (q0 (q0 .z (.cond .z .z)) (q0 (.block none (q0 (.draw 1 (.take 0 (.take 1 (.take 2 (.take 4 (.take 7 (.take 8 (.take 3 (.take 5 (.take 6 (.all [(9,(.take 10 (.take 11 (.take 12 (.take 13 (.take 14 (.take 15 (.take 16 (.take 17 (.take 18 (.take 19 (.take 20 (.take 21 (.take 22 (.take 23 (.take 25 (.take 28 (.take 29 (.take 24 (.take 26 (.take 27 (.all [(30,(.take 31 (.take 32 (.take 33 (.take 34 .done)))))]))))))))))))))))))))))]))))))))))) (.cond (q0 .z .z) .z))) .z)))))) .z))))) (q0 (q0 .z (.block none (.loop [(11,(.i .i64))] (q0 (q0 .z (.cond .z .z)) (q0 (.block none (q0 .z (q0 (q0 .z (.block none (.loop [(13,(.i .i64))] (q0 (q0 .z (.cond .z .z)) (q0 (.block none .z) .z))))) .z))) .z))))) (q0 (q0 .z (.block none (.loop [(14,(.i .i64))] (q0 (q0 .z (.cond .z .z)) (q0 (.block none (q0 .z (.block none (.loop [(15,(.i .i64))] (q0 (q0 .z (.cond .z .z)) (q0 (.block none (q0 (.draw 1 (.take 0 (.take 1 (.take 2 (.take 4 (.take 7 (.take 8 (.take 3 (.take 5 (.take 6 (.all [(9,(.take 10 (.take 11 (.take 12 (.take 13 (.take 14 (.take 15 (.take 17 (.take 20 (.take 21 (.take 16 (.take 18 (.take 19 (.all [(22,(.take 23 (.take 24 (.take 25 .done))))]))))))))))))))]))))))))))) (.cond (q0 .z .z) .z))) .z)))))) .z))))) (q0 .z .z)))))))) func81 (by kernel_rfl) [.sl ls] (by kernel_rfl) (by kernel_rfl) (qX jFS hls hlb ho hd hn)
def kR:rQ (Hd):={K:=7,f:=Hd.cells,val:=Hd.val,m:=mR,ex:=λQ=>∃ xa:zY,∃ xb xc:Int,∃ xd:Slc,∃ xe:Bool,∃ xf xg:Slc,Q ⟨xa,xb,xc,xd,xe,xf,xg⟩,mark:=29,e:=40,t:=22,tt:=33,wr:=λsx K w=>(sx w/\((sx w/\K w)/\True))/\True,cmp:=λs pan sx a b w KF KT=>(aD prog 22 [a.val,b.val] w pan λv w'=>∃ x:Bool,v=(.bool x)/\(sx w'/\aE (!x) (KF w') (KT w')))/\True}
theorem jDY:nW kR where
 pos:=by decide
 small:=by decide
 len:=Hd.len
 one:=Hd.one
 cells _:=rfl
 ex c h:=⟨c.a,c.b,c.c,c.d,c.e,c.f,c.g,h⟩
 mark:=kK
 cmp s k i w h:=⟨aB (mF (qBU w k i) (qBU w k i)) λv w' ⟨e,hm⟩=>⟨_,e,(h w' hm).1,aC (λe=>by simp at e) λ_=>(h w' hm).2⟩,trivial⟩
 wr h1 h2:=⟨⟨h1,⟨⟨h1,h2⟩,trivial⟩⟩,trivial⟩
 info:=by obtain ⟨i,h1,h2,h3,h4⟩:=iF; exact ⟨i,_,(⟨[],0,0,⟨none,0,0⟩,false,⟨none,0,0⟩,⟨none,0,0⟩⟩:Hd),112,h1,h2,h3,rfl,h4,by decide⟩
 it:=bC (by kernel_rfl) (by kernel_rfl) (by kernel_rfl)
 ue:=by kernel_rfl
 ut:=by kernel_rfl
 se:=by kernel_rfl
 sz:=by kernel_rfl
 st:=by kernel_rfl
 s1:=by kernel_rfl
theorem tL {w:World} {ls:Slc} {ss:List Slc} (hls:aK w ls 1 (ss.map Slc.val)) (hlb : ∀ k,k<ss.length->∀ x,(sl ss k).blk=some x->ls.blk≠some x)
 (ho : ∀ k,k<ss.length->(∃ vs,Sh.Own w (sl ss k) 7 vs)/\(sl ss k).len<=1000000000) (hd : ∀ i j,i<ss.length->j<ss.length->i≠j->∀ x,(sl ss i).blk=some x->(sl ss j).blk≠some x) (hn:ss.length<=1000000) :
 Calls prog 82 #[.slice ls.a ls.len ls.cap] w (Ret λv w'=>v = .bool true/\Mod (UB ss) w w'):=
 dE (q0 .z (q0 (q0 .z (.block none (.loop [(3,(.i .i64))] (q0 (q0 .z (.cond .z .z)) (q0 (.block none (q0 .z (.block none (.loop [(4,(.i .i64))] (q0 (q0 .z (.cond .z .z)) (q0 (.block none (.draw 1 (.take 0 (.take 1 (.take 2 (.take 4 (.take 5 (.take 6 (.take 3 (.all [(7,(.take 8 (.all [(9,.done)])))])))))))))) .z)))))) .z))))) (q0 .z (q0 (q0 .z (.block none (.loop [(6,(.i .i64))] (q0 (q0 .z (.cond .z .z)) (q0 (.block none (q0 .z (q0 (q0 .z (.block none (.loop [(7,.sl),(8,(.i .i64))] (q0 (q0 .z (.cond .z .z)) (q0 (.block none .z) .z))))) .z))) .z))))) (q0 (q0 .z (.block none (.loop [(9,(.i .i64))] (q0 (q0 .z (.cond .z .z)) (q0 (.block none (q0 .z (.block none (.loop [(10,(.i .i64))] (q0 (q0 .z (.cond .z .z)) (q0 (.block none (q0 (.draw 1 (.take 0 (.take 1 (.take 2 (.take 4 (.take 7 (.take 8 (.take 3 (.take 5 (.take 6 (.all [(9,(.all [(10,(.take 11 (.take 12 (.take 13 (.take 14 (.take 15 (.take 16 (.take 17 (.take 18 (.take 19 (.take 20 (.take 21 (.take 22 (.take 23 (.take 25 (.take 28 (.take 29 (.take 24 (.take 26 (.take 27 (.all [(30,(.all [(31,(.take 32 (.take 33 (.take 34 .done))))]))])))))))))))))))))))))]))]))))))))))) (.cond (q0 .z .z) .z))) .z)))))) .z))))) (q0 (q0 .z (.block none (.loop [(11,(.i .i64))] (q0 (q0 .z (.cond .z .z)) (q0 (.block none (q0 .z (q0 (q0 .z (.block none (.loop [(13,(.i .i64))] (q0 (q0 .z (.cond .z .z)) (q0 (.block none .z) .z))))) .z))) .z))))) (q0 (q0 .z (.block none (.loop [(14,(.i .i64))] (q0 (q0 .z (.cond .z .z)) (q0 (.block none (q0 .z (.block none (.loop [(15,(.i .i64))] (q0 (q0 .z (.cond .z .z)) (q0 (.block none (q0 (.draw 1 (.take 0 (.take 1 (.take 2 (.take 4 (.take 7 (.take 8 (.take 3 (.take 5 (.take 6 (.all [(9,(.all [(10,(.take 11 (.take 12 (.take 13 (.take 14 (.take 15 (.take 17 (.take 20 (.take 21 (.take 16 (.take 18 (.take 19 (.all [(22,(.all [(23,(.take 24 (.take 25 .done)))]))])))))))))))))]))]))))))))))) (.cond (q0 .z .z) .z))) .z)))))) .z))))) (q0 .z .z)))))))) func82 (by kernel_rfl) [.sl ls] (by kernel_rfl) (by kernel_rfl) (qX jDY hls hlb ho hd hn)
def kL:rQ (zY×Slc):={K:=2,f:=dG,val:=λe=>.agg (dG e).toArray,m:=mL,ex:=λQ=>∃ xa:zY,∃ xb:Slc,Q (xa,xb),mark:=134,e:=64,t:=26,tt:=35,wr:=λsx K w=>(sx w/\((sx w/\K w)/\True))/\True,cmp:=λs pan sx a b w KF KT=>(aD prog 32 [.agg (dG a).toArray,.agg (dG b).toArray] w pan λv w'=>∃ x:Bool,v=(.bool x)/\(sx w'/\aE (!x) (KF w') (KT w')))/\True}
theorem jGG:nW kL where
 pos:=by decide
 small:=by decide
 len:=cL
 one:=lZ
 cells _:=rfl
 ex c h:=⟨c.1,c.2,h⟩
 mark:=zX
 cmp s k i w h:=⟨aB (sQ (a:=mL k i) (b:=mL k i) (uI _) (uI _) (by simp)) λv w' ⟨e,hm⟩=>⟨_,e,(h w' hm).1,aC (λe=>by simp at e) λ_=>(h w' hm).2⟩,trivial⟩
 wr h1 h2:=⟨⟨h1,⟨⟨h1,h2⟩,trivial⟩⟩,trivial⟩
 info:=by obtain ⟨i,h1,h2,h3,h4⟩:=xO; exact ⟨i,_,(([],⟨none,0,0⟩):zY×Slc),40,h1,h2,h3,rfl,h4,by decide⟩
 it:=bC (by kernel_rfl) (by kernel_rfl) (by kernel_rfl)
 ue:=by kernel_rfl
 ut:=by kernel_rfl
 se:=by kernel_rfl
 sz:=by kernel_rfl
 st:=by kernel_rfl
 s1:=by kernel_rfl
theorem vX {w:World} {ls:Slc} {ss:List Slc} (hls:aK w ls 1 (ss.map Slc.val)) (hlb : ∀ k,k<ss.length->∀ x,(sl ss k).blk=some x->ls.blk≠some x)
 (ho : ∀ k,k<ss.length->(∃ vs,Sh.Own w (sl ss k) 2 vs)/\(sl ss k).len<=1000000000) (hd : ∀ i j,i<ss.length->j<ss.length->i≠j->∀ x,(sl ss i).blk=some x->(sl ss j).blk≠some x) (hn:ss.length<=1000000) :
 Calls prog 83 #[.slice ls.a ls.len ls.cap] w (Ret λv w'=>v = .bool true/\Mod (UB ss) w w'):=
 dE (q0 .z (q0 (q0 .z (.block none (.loop [(3,(.i .i64))] (q0 (q0 .z (.cond .z .z)) (q0 (.block none (q0 .z (.block none (.loop [(4,(.i .i64))] (q0 (q0 .z (.cond .z .z)) (q0 (.block none (.draw 1 (.take 0 (.take 1 (.take 2 (.take 4 (.take 5 (.take 6 (.take 3 (.all [(7,(.take 8 (.all [(9,.done)])))])))))))))) .z)))))) .z))))) (q0 .z (q0 (q0 .z (.block none (.loop [(6,(.i .i64))] (q0 (q0 .z (.cond .z .z)) (q0 (.block none (q0 .z (q0 (q0 .z (.block none (.loop [(7,.sl),(8,(.i .i64))] (q0 (q0 .z (.cond .z .z)) (q0 (.block none .z) .z))))) .z))) .z))))) (q0 (q0 .z (.block none (.loop [(9,(.i .i64))] (q0 (q0 .z (.cond .z .z)) (q0 (.block none (q0 .z (.block none (.loop [(10,(.i .i64))] (q0 (q0 .z (.cond .z .z)) (q0 (.block none (q0 (.draw 1 (.take 0 (.take 1 (.take 2 (.take 4 (.take 7 (.take 8 (.take 3 (.take 5 (.take 6 (.all [(9,(.all [(10,(.take 11 (.take 12 (.take 13 (.take 14 (.take 15 (.take 16 (.take 17 (.take 18 (.take 19 (.take 20 (.take 21 (.take 22 (.take 23 (.take 25 (.take 28 (.take 29 (.take 24 (.take 26 (.take 27 (.all [(30,(.all [(31,(.take 32 (.take 33 (.take 34 .done))))]))])))))))))))))))))))))]))]))))))))))) (.cond (q0 .z .z) .z))) .z)))))) .z))))) (q0 (q0 .z (.block none (.loop [(11,(.i .i64))] (q0 (q0 .z (.cond .z .z)) (q0 (.block none (q0 .z (q0 (q0 .z (.block none (.loop [(13,(.i .i64))] (q0 (q0 .z (.cond .z .z)) (q0 (.block none .z) .z))))) .z))) .z))))) (q0 (q0 .z (.block none (.loop [(14,(.i .i64))] (q0 (q0 .z (.cond .z .z)) (q0 (.block none (q0 .z (.block none (.loop [(15,(.i .i64))] (q0 (q0 .z (.cond .z .z)) (q0 (.block none (q0 (.draw 1 (.take 0 (.take 1 (.take 2 (.take 4 (.take 7 (.take 8 (.take 3 (.take 5 (.take 6 (.all [(9,(.all [(10,(.take 11 (.take 12 (.take 13 (.take 14 (.take 15 (.take 17 (.take 20 (.take 21 (.take 16 (.take 18 (.take 19 (.all [(22,(.all [(23,(.take 24 (.take 25 .done)))]))])))))))))))))]))]))))))))))) (.cond (q0 .z .z) .z))) .z)))))) .z))))) (q0 .z .z)))))))) func83 (by kernel_rfl) [.sl ls] (by kernel_rfl) (by kernel_rfl) (qX jGG hls hlb ho hd hn)
def qTG (b:zO) (l:Slc) (w:World) (R:RW):Prop:=
 aA b λa=>∃ x:Slc,Rd w (a.add 8) [zS x]/\aH prog (Instr.buildSlice 80 1 #[(0,(zS l))]) w λv w1=>∃ x1:Slc,v=(zS x1)/\aH prog (Builtin.append_ #[80,80] 80 #[zS x,zS x1]) w1 λv1 w2=>∃ x2:Slc,v1=(zS x2)/\aA b λa1=>aJ prog (storeVar 80 (a1.add 8) (zS x2)) w2 λw3=>R (.returned (.tuple #[])) w3
theorem qPN (b:zO) (l:Slc) {w:World} {R:RW} (h9:qTG b l w R):Calls prog 130 #[.pointer b,zS l] w R:=
 dE .z func130 (by kernel_rfl) [.p b,.sl l] (by kernel_rfl) (by kernel_rfl) h9
def qVD (b:zO) (l:Slc) (w:World) (R:RW):Prop:=
 aA b λa=>∃ x:Slc,Rd w (a.add 5) [zS x]/\aH prog (Instr.buildSlice 77 1 #[(0,(zS l))]) w λv w1=>∃ x1:Slc,v=(zS x1)/\aH prog (Builtin.append_ #[77,77] 77 #[zS x,zS x1]) w1 λv1 w2=>∃ x2:Slc,v1=(zS x2)/\aA b λa1=>aJ prog (storeVar 77 (a1.add 5) (zS x2)) w2 λw3=>R (.returned (.tuple #[])) w3
theorem qMX (b:zO) (l:Slc) {w:World} {R:RW} (h9:qVD b l w R):Calls prog 131 #[.pointer b,zS l] w R:=
 dE .z func131 (by kernel_rfl) [.p b,.sl l] (by kernel_rfl) (by kernel_rfl) h9
def jGX (b:zO) (xa:zY) (xb xc:Int) (xd:Slc) (xe:Bool) (xf xg:Slc) (w:World) (R:RW):Prop:=
 aH prog (Instr.box 40 (zR xa xb xc xd xe xf xg)) w λv w1=>∃ x:zO,v=(.pointer x)/\aA x λa=>∃ x1:Slc,Rd w1 (a.add 3) [zS x1]/\aD prog 130 [.pointer b,zS x1] w1 (aG R) λv1 w2=>v1=(.tuple #[])/\aA x λa1=>∃ x2:Slc,Rd w2 (a1.add 5) [zS x2]/\aD prog 131 [.pointer b,zS x2] w2 (aG R) λv2 w3=>v2=(.tuple #[])/\aA x λa2=>∃ x3:Slc,Rd w3 (a2.add 6) [zS x3]/\aD prog 131 [.pointer b,zS x3] w3 (aG R) λv3 w4=>v3=(.tuple #[])/\R (.returned (.tuple #[])) w4
theorem jBX (b:zO) (xa:zY) (xb xc:Int) (xd:Slc) (xe:Bool) (xf xg:Slc) {w:World} {R:RW} (h9:jGX b xa xb xc xd xe xf xg w R):Calls prog 72 #[.pointer b,zR xa xb xc xd xe xf xg] w R:=
 zC (q0 .z (q0 .z (q0 .z .z))) func72 [.p b,.agg [.s xa,.i .i64 xb,.i .i64 xc,.sl xd,.b xe,.sl xf,.sl xg]] h9
def jEI (b:zO) (l:Slc) (w:World) (R:RW):Prop:=
 aA b λa=>∃ x:Slc,Rd w (a.add 9) [zS x]/\aH prog (Instr.buildSlice 33 1 #[(0,(zS l))]) w λv w1=>∃ x1:Slc,v=(zS x1)/\aH prog (Builtin.append_ #[33,33] 33 #[zS x,zS x1]) w1 λv1 w2=>∃ x2:Slc,v1=(zS x2)/\aA b λa1=>aJ prog (storeVar 33 (a1.add 9) (zS x2)) w2 λw3=>∃ (inv:zT) (mu:zU),inv [.i .i64 0] w3/\(∀ i:Int,∀ w4:World,inv [.i .i64 i] w4->aE (decide (i<l.len)) ((zB i l.len/\aA l.a λa2=>∃ xa:zY,∃ xb xc:Int,∃ xd:Slc,∃ xe:Bool,∃ xf xg:Slc,Rd w4 (a2.add (i.toNat*7)) (yR xa xb xc xd xe xf xg)/\aD prog 72 [.pointer b,zR xa xb xc xd xe xf xg] w4 (aG R) λv2 w5=>v2=(.tuple #[])/\(inv [.i .i64 (zW (i+1))] w5/\mu [.i .i64 (zW (i+1))] w5<mu [.i .i64 i] w4))) (R (.returned (.tuple #[])) w4))
theorem jBE (b:zO) (l:Slc) {w:World} {R:RW} (h9:jEI b l w R):Calls prog 38 #[.pointer b,zS l] w R:=
 zC (q0 .z (q0 .z (.block none (.loop [(4,(.i .i64))] (q0 (q0 .z (.cond .z .z)) (q0 (.block none .z) .z)))))) func38 [.p b,.sl l] h9
def jHL (b:zO) (xa:zY) (xb:Slc) (w:World) (R:RW):Prop:=
 aH prog (Instr.box 64 (.agg #[.string ⟨xa.toArray⟩,zS xb])) w λv w1=>∃ x:zO,v=(.pointer x)/\aA x λa=>∃ x1:Slc,Rd w1 (a.add 1) [zS x1]/\aD prog 38 [.pointer b,zS x1] w1 (aG R) λv1 w2=>v1=(.tuple #[])/\R (.returned (.tuple #[])) w2
theorem qYX (b:zO) (xa:zY) (xb:Slc) {w:World} {R:RW} (h9:jHL b xa xb w R):Calls prog 97 #[.pointer b,.agg #[.string ⟨xa.toArray⟩,zS xb]] w R:=
 zC (q0 .z .z) func97 [.p b,.agg [.s xa,.sl xb]] h9
def jDV (b:zO) (l:Slc) (w:World) (R:RW):Prop:=
 aA b λa=>∃ x:Slc,Rd w (a.add 10) [zS x]/\aH prog (Instr.buildSlice 35 1 #[(0,(zS l))]) w λv w1=>∃ x1:Slc,v=(zS x1)/\aH prog (Builtin.append_ #[35,35] 35 #[zS x,zS x1]) w1 λv1 w2=>∃ x2:Slc,v1=(zS x2)/\aA b λa1=>aJ prog (storeVar 35 (a1.add 10) (zS x2)) w2 λw3=>∃ (inv:zT) (mu:zU),inv [.i .i64 0] w3/\(∀ i:Int,∀ w4:World,inv [.i .i64 i] w4->aE (decide (i<l.len)) ((zB i l.len/\aA l.a λa2=>∃ xa:zY,∃ xb:Slc,Rd w4 (a2.add (i.toNat*2)) [.string ⟨xa.toArray⟩,zS xb]/\aD prog 97 [.pointer b,.agg #[.string ⟨xa.toArray⟩,zS xb]] w4 (aG R) λv2 w5=>v2=(.tuple #[])/\(inv [.i .i64 (zW (i+1))] w5/\mu [.i .i64 (zW (i+1))] w5<mu [.i .i64 i] w4))) (R (.returned (.tuple #[])) w4))
theorem jCM (b:zO) (l:Slc) {w:World} {R:RW} (h9:jDV b l w R):Calls prog 40 #[.pointer b,zS l] w R:=
 zC (q0 .z (q0 .z (.block none (.loop [(4,(.i .i64))] (q0 (q0 .z (.cond .z .z)) (q0 (.block none .z) .z)))))) func40 [.p b,.sl l] h9
def jEC (ls:Slc) (w:World) (R:RW):Prop:=
 aH prog (Instr.box 95 (.agg #[.slice none 0 0,.slice none 0 0,.slice none 0 0,.slice none 0 0,.slice none 0 0,.slice none 0 0,.slice none 0 0,.slice none 0 0,.slice none 0 0,.slice none 0 0,.slice none 0 0,.slice none 0 0,.slice none 0 0,.slice none 0 0,.slice none 0 0,.slice none 0 0,.slice none 0 0,.slice none 0 0,.slice none 0 0,.slice none 0 0,.slice none 0 0,.slice none 0 0,.slice none 0 0,.slice none 0 0])) w λv w1=>∃ x:zO,v=(.pointer x)/\∃ (inv:zT) (mu:zU),inv [.i .i64 0] w1/\(∀ k:Int,∀ w2:World,inv [.i .i64 k] w2->aE (decide (k<ls.len)) ((zB k ls.len/\aA ls.a λa=>∃ x1:Slc,Rd w2 (a.add (k.toNat*1)) [zS x1]/\aD prog 38 [.pointer x,zS x1] w2 (aG R) λv1 w3=>v1=(.tuple #[])/\(inv [.i .i64 (zW (k+1))] w3/\mu [.i .i64 (zW (k+1))] w3<mu [.i .i64 k] w2))) (aD prog 39 [.pointer x] w2 (aG R) λv2 w4=>∃ x2:Bool,v2=(.bool x2)/\R (.returned (.bool x2)) w4))
theorem jBM (ls:Slc) {w:World} {R:RW} (h9:jEC ls w R):Calls prog 17 #[zS ls] w R:=
 zC (q0 .z (q0 .z (q0 (q0 .z (.block none (.loop [(4,(.i .i64))] (q0 (q0 .z (.cond .z .z)) (q0 (.block none .z) .z))))) (q0 .z .z)))) func17 [.sl ls] h9
def jFL (ls:Slc) (w:World) (R:RW):Prop:=
 aH prog (Instr.box 95 (.agg #[.slice none 0 0,.slice none 0 0,.slice none 0 0,.slice none 0 0,.slice none 0 0,.slice none 0 0,.slice none 0 0,.slice none 0 0,.slice none 0 0,.slice none 0 0,.slice none 0 0,.slice none 0 0,.slice none 0 0,.slice none 0 0,.slice none 0 0,.slice none 0 0,.slice none 0 0,.slice none 0 0,.slice none 0 0,.slice none 0 0,.slice none 0 0,.slice none 0 0,.slice none 0 0,.slice none 0 0])) w λv w1=>∃ x:zO,v=(.pointer x)/\∃ (inv:zT) (mu:zU),inv [.i .i64 0] w1/\(∀ k:Int,∀ w2:World,inv [.i .i64 k] w2->aE (decide (k<ls.len)) ((zB k ls.len/\aA ls.a λa=>∃ x1:Slc,Rd w2 (a.add (k.toNat*1)) [zS x1]/\aD prog 40 [.pointer x,zS x1] w2 (aG R) λv1 w3=>v1=(.tuple #[])/\(inv [.i .i64 (zW (k+1))] w3/\mu [.i .i64 (zW (k+1))] w3<mu [.i .i64 k] w2))) (aD prog 39 [.pointer x] w2 (aG R) λv2 w4=>∃ x2:Bool,v2=(.bool x2)/\R (.returned (.bool x2)) w4))
theorem jBI (ls:Slc) {w:World} {R:RW} (h9:jFL ls w R):Calls prog 18 #[zS ls] w R:=
 zC (q0 .z (q0 .z (q0 (q0 .z (.block none (.loop [(4,(.i .i64))] (q0 (q0 .z (.cond .z .z)) (q0 (.block none .z) .z))))) (q0 .z .z)))) func18 [.sl ls] h9
def jHB (b:zO) (w:World) (R:RW):Prop:=
 aA b λa=>∃ x:Slc,Rd w (a.add 0) [zS x]/\aD prog 73 [zS x] w (aG R) λv w1=>∃ x1:Bool,v=(.bool x1)/\aE x1 (aA b λa1=>∃ x2:Slc,Rd w1 (a1.add 1) [zS x2]/\aD prog 74 [zS x2] w1 (aG R) λv1 w2=>∃ x3:Bool,v1=(.bool x3)/\aE x3 (aA b λa2=>∃ x4:Slc,Rd w2 (a2.add 2) [zS x4]/\aD prog 75 [zS x4] w2 (aG R) λv2 w3=>∃ x5:Bool,v2=(.bool x5)/\aE x5 (aA b λa3=>∃ x6:Slc,Rd w3 (a3.add 3) [zS x6]/\aD prog 76 [zS x6] w3 (aG R) λv3 w4=>∃ x7:Bool,v3=(.bool x7)/\aE x7 (aA b λa4=>∃ x8:Slc,Rd w4 (a4.add 4) [zS x8]/\aD prog 77 [zS x8] w4 (aG R) λv4 w5=>∃ x9:Bool,v4=(.bool x9)/\aE x9 (aA b λa5=>∃ x10:Slc,Rd w5 (a5.add 5) [zS x10]/\aD prog 78 [zS x10] w5 (aG R) λv5 w6=>∃ x11:Bool,v5=(.bool x11)/\aE x11 (aA b λa6=>∃ x12:Slc,Rd w6 (a6.add 6) [zS x12]/\aD prog 79 [zS x12] w6 (aG R) λv6 w7=>∃ x13:Bool,v6=(.bool x13)/\aE x13 (aA b λa7=>∃ x14:Slc,Rd w7 (a7.add 7) [zS x14]/\aD prog 80 [zS x14] w7 (aG R) λv7 w8=>∃ x15:Bool,v7=(.bool x15)/\aE x15 (aA b λa8=>∃ x16:Slc,Rd w8 (a8.add 8) [zS x16]/\aD prog 81 [zS x16] w8 (aG R) λv8 w9=>∃ x17:Bool,v8=(.bool x17)/\aE x17 (aA b λa9=>∃ x18:Slc,Rd w9 (a9.add 9) [zS x18]/\aD prog 82 [zS x18] w9 (aG R) λv9 w10=>∃ x19:Bool,v9=(.bool x19)/\aE x19 (aA b λa10=>∃ x20:Slc,Rd w10 (a10.add 10) [zS x20]/\aD prog 83 [zS x20] w10 (aG R) λv10 w11=>∃ x21:Bool,v10=(.bool x21)/\aE x21 (aA b λa11=>∃ x22:Slc,Rd w11 (a11.add 11) [zS x22]/\aD prog 84 [zS x22] w11 (aG R) λv11 w12=>∃ x23:Bool,v11=(.bool x23)/\aE x23 (aA b λa12=>∃ x24:Slc,Rd w12 (a12.add 12) [zS x24]/\aD prog 85 [zS x24] w12 (aG R) λv12 w13=>∃ x25:Bool,v12=(.bool x25)/\aE x25 (aA b λa13=>∃ x26:Slc,Rd w13 (a13.add 13) [zS x26]/\aD prog 86 [zS x26] w13 (aG R) λv13 w14=>∃ x27:Bool,v13=(.bool x27)/\aE x27 (aA b λa14=>∃ x28:Slc,Rd w14 (a14.add 14) [zS x28]/\aD prog 87 [zS x28] w14 (aG R) λv14 w15=>∃ x29:Bool,v14=(.bool x29)/\aE x29 (aA b λa15=>∃ x30:Slc,Rd w15 (a15.add 15) [zS x30]/\aD prog 88 [zS x30] w15 (aG R) λv15 w16=>∃ x31:Bool,v15=(.bool x31)/\aE x31 (aA b λa16=>∃ x32:Slc,Rd w16 (a16.add 16) [zS x32]/\aD prog 89 [zS x32] w16 (aG R) λv16 w17=>∃ x33:Bool,v16=(.bool x33)/\aE x33 (aA b λa17=>∃ x34:Slc,Rd w17 (a17.add 17) [zS x34]/\aD prog 90 [zS x34] w17 (aG R) λv17 w18=>∃ x35:Bool,v17=(.bool x35)/\aE x35 (aA b λa18=>∃ x36:Slc,Rd w18 (a18.add 18) [zS x36]/\aD prog 91 [zS x36] w18 (aG R) λv18 w19=>∃ x37:Bool,v18=(.bool x37)/\aE x37 (aA b λa19=>∃ x38:Slc,Rd w19 (a19.add 19) [zS x38]/\aD prog 92 [zS x38] w19 (aG R) λv19 w20=>∃ x39:Bool,v19=(.bool x39)/\aE x39 (aA b λa20=>∃ x40:Slc,Rd w20 (a20.add 20) [zS x40]/\aD prog 93 [zS x40] w20 (aG R) λv20 w21=>∃ x41:Bool,v20=(.bool x41)/\aE x41 (aA b λa21=>∃ x42:Slc,Rd w21 (a21.add 21) [zS x42]/\aD prog 94 [zS x42] w21 (aG R) λv21 w22=>∃ x43:Bool,v21=(.bool x43)/\aE x43 (aA b λa22=>∃ x44:Slc,Rd w22 (a22.add 22) [zS x44]/\aD prog 95 [zS x44] w22 (aG R) λv22 w23=>∃ x45:Bool,v22=(.bool x45)/\aE x45 (aA b λa23=>∃ x46:Slc,Rd w23 (a23.add 23) [zS x46]/\aD prog 96 [zS x46] w23 (aG R) λv23 w24=>∃ x47:Bool,v23=(.bool x47)/\R (.returned (.bool x47)) w24) (zF R false w23)) (zF R false w22)) (zF R false w21)) (zF R false w20)) (zF R false w19)) (zF R false w18)) (zF R false w17)) (zF R false w16)) (zF R false w15)) (zF R false w14)) (zF R false w13)) (zF R false w12)) (zF R false w11)) (zF R false w10)) (zF R false w9)) (zF R false w8)) (zF R false w7)) (zF R false w6)) (zF R false w5)) (zF R false w4)) (zF R false w3)) (zF R false w2)) (zF R false w1)
theorem jBT (b:zO) {w:World} {R:RW} (h9:jHB b w R):Calls prog 39 #[.pointer b] w R:=
 zC (q0 .z (q0 .z .z)) func39 [.p b] h9
def upd {α:Type} (q:Nat->α) (j:Nat) (s:α):Nat->α:=λi=>if i=j then s else q i
theorem upd_same {α:Type} (q:Nat->α) (j:Nat) (s:α):upd q j s j=s:=by simp [upd]
theorem upd_ne {α:Type} (q:Nat->α) {i j:Nat} (s:α) (h:i≠j):upd q j s i=q i:=by simp [upd,h]
def oZ (q:Nat->Slc):List Value:=(List.range 24).map λi=>(q i).val
theorem mJ (q:Nat->Slc) {i:Nat} (h:i<24):(oZ q)[i]? = some (q i).val:=by rw [oZ,List.getElem?_map,List.getElem?_range h]; rfl
theorem nR (q:Nat->Slc):(oZ q).length=24:=by simp [oZ]
theorem qIP (q:Nat->Slc) {j:Nat} (s:Slc):(oZ q).set j s.val=oZ (upd q j s):=by
 apply List.ext_getElem?
 intro i
 rw [List.getElem?_set,nR]
 by_cases h:i<24
 ·rw [mJ _ h,mJ _ h]
  split
  ·next e=>subst e; simp [upd_same,h]
  ·next e=>rw [upd_ne _ _ (λe'=>e e'.symm)]
 ·rw [List.getElem?_eq_none (l:=oZ q) (by rw [nR]; omega),List.getElem?_eq_none (l:=oZ (upd q j s)) (by rw [nR]; omega)]
  split
  ·next e=>subst e; simp [h]
  ·rfl
structure eU (n0:Nat) (w:World) (B:Nat) (T:TypeId) (q:Nat->Slc) (c:Nat->List Slc):Prop where
 blk:Blk w B (oZ q) T
 own : ∀ i,i<24->Sh.Own w (q i) 1 ((c i).map Slc.val)
 lo : ∀ i,i<24->∀ z,(q i).blk=some z->n0<=z/\z≠B
 dis : ∀ i j,i<24->j<24->i≠j->∀ z,(q i).blk=some z->(q j).blk≠some z
 nil : ∀ i,i<24->c i=[]->q i=⟨none,0,0⟩
 n0:n0<=B
def MB (q:Nat->Slc) (B z:Nat):Prop:=z=B\/∃ i,i<24/\(q i).blk=some z
structure gB (w:World) (q:Nat->Slc) (w':World) (q':Nat->Slc) (B:Nat):Prop where
 mod:Mod (MB q B) w w'
 up : ∀ z,MB q' B z->MB q B z\/w.heap.size<=z
theorem gB.tr {a b c:World} {q r s:Nat->Slc} {B:Nat} (h:gB a q b r B) (h':gB b r c s B):gB a q c s B:=by
 have hs:=h.mod.size
 refine ⟨h.mod.trans h'.mod (λ_ _ h=>h) λx hx hr=>(h.up x hr).elim id λg=>absurd g (by omega),λz hz=>?_⟩
 rcases h'.up z hz with g | g
 ·exact h.up z g
 ·exact .inr (by omega)
theorem gB.no {a b:World} {q:Nat->Slc} {B:Nat} (h:Mod NoB a b):gB a q b q B:=⟨h.mono λ_ _ h=>h.elim,λ_ h=>.inl h⟩
theorem eU.ups {n0:Nat} {w:World} {B:Nat} {T:TypeId} {q:Nat->Slc} {c:Nat->List Slc} (h:eU n0 w B T q c) : ∀ z,MB q B z->n0<=z/\z<w.heap.size:=λz hz=>hz.elim (λe=>e ▸ ⟨h.n0,h.blk.lt⟩) λ⟨i,hi,e⟩=>⟨(h.lo i hi z e).1,(h.own i hi).lt e⟩
theorem eU.mod {n0:Nat} {w w':World} {B:Nat} {T:TypeId} {q:Nat->Slc} {c:Nat->List Slc} {S:Nat->Prop} (h:eU n0 w B T q c) (hm:Mod S w w') (hS : ∀ z,MB q B z->¬ S z):eU n0 w' B T q c:=
 ⟨h.blk.mod hm (hS B (.inl rfl)),λi hi=>(h.own i hi).mod hm λz hz=>hS z (.inr ⟨i,hi,hz⟩),h.lo,h.dis,h.nil,h.n0⟩
theorem eU.no {n0:Nat} {w w':World} {B:Nat} {T:TypeId} {q:Nat->Slc} {c:Nat->List Slc} (h:eU n0 w B T q c) (hm:Mod NoB w w'):eU n0 w' B T q c:=h.mod hm λ_ _ h=>h
section
variable {w:World}
theorem nZ {n0 B j:Nat} {T0 t e:TypeId} {q:Nat->Slc} {c:Nat->List Slc} {l:Slc} {K:zP} (hj:j<24) (hS:eU n0 w B T0 q c) (ut:prog.underlying t=some (.slice e)) (ie : ∃ i,prog.info? e=some i/\i.zero=some (.slice none 0 0)/\i.size=1/\i.bytes=24) (it:(prog.info? t).isSome=true) (sz:bE prog t=1) (hn:(c j).length<=1000000)
 (hK : ∀ w' q',eU n0 w' B T0 q' (upd c j (c j++[l]))->gB w q w' q' B->K w') :
 ∃ x:Slc,Rd w (Addr.add ⟨B,0,none⟩ j) [(.slice x.a x.len x.cap)]/\aH prog (Instr.buildSlice t 1 #[(0,(.slice l.a l.len l.cap))]) w λv w1=>∃ x1:Slc,v=(.slice x1.a x1.len x1.cap)/\aH prog (Builtin.append_ #[t,t] t #[(.slice x.a x.len x.cap),(.slice x1.a x1.len x1.cap)]) w1 λv1 w2=>∃ x2:Slc,v1=(.slice x2.a x2.len x2.cap)/\aJ prog (storeVar t (Addr.add ⟨B,0,none⟩ j) (.slice x2.a x2.len x2.cap)) w2 K:=by
 obtain ⟨i,h1,h2,h3,h4⟩:=ie
 have k6:(c j).length=(q j).len:=by have:=(hS.own j hj).1; simp at this; omega
 have p8:=hS.blk.lt
 have fin : ∀ (s':Slc) (w2:World),Sh.Own w2 s' 1 ((c j++[l]).map Slc.val)->(∀ z,s'.blk=some z->(q j).blk=some z\/w.heap.size<=z)->Mod (λz=>(q j).blk=some z) w w2->aJ prog (storeVar t (Addr.add ⟨B,0,none⟩ j) (.slice s'.a s'.len s'.cap)) w2 K:=by
  intro s' w2 ho hb hm
  have hB2:Blk w2 B (oZ q) T0:=hS.blk.mod hm λe=>(hS.lo j hj B e).2 rfl
  have k3 : ∀ z,s'.blk=some z->n0<=z/\z≠B:=λz hz=>by
   rcases hb z hz with h | h
   ·exact hS.lo j hj z h
   ·have:=hS.n0; exact ⟨by omega,by omega⟩
  refine dH (v:=s'.val) (i:=j) it sz rfl hB2 (by rw [nR]; exact hj) λw3 ht3 k4=>?_
  rw [qIP] at k4
  have k5 : ∀ i,i<24->i≠j->Sh.Own w3 (q i) 1 ((c i).map Slc.val):=λi hi hij=>((hS.own i hi).mod hm λz hz h9=>hS.dis i j hi hj hij z hz h9).mod ht3.mod λz hz e=>(hS.lo i hi z hz).2 e
  refine hK w3 (upd q j s') ⟨k4,λi hi=>?_,λi hi=>?_,λi k hi hk hik z hz h9=>?_,λi hi hci=>?_,hS.n0⟩ ⟨hm.trans ht3.mod (λz _ hz=>.inr ⟨j,hj,hz⟩) λz _ hz=>.inl hz,λz hz=>?_⟩
  ·by_cases e:i=j
   ·subst e; rw [upd_same,upd_same]; exact ho.mod ht3.mod λz hz e=>(k3 z hz).2 e
   ·rw [upd_ne _ _ e,upd_ne _ _ e]; exact k5 i hi e
  ·by_cases e:i=j
   ·subst e; rw [upd_same]; exact k3
   ·rw [upd_ne _ _ e]; exact hS.lo i hi
  ·by_cases ei:i=j
   ·subst ei
    rw [upd_same] at hz; rw [upd_ne _ _ (λe=>hik e.symm)] at h9
    rcases hb z hz with h | h
    ·exact hS.dis i k hi hk hik z h h9
    ·have:=(hS.own k hk).lt h9; omega
   ·rw [upd_ne _ _ ei] at hz
    by_cases ek:k=j
    ·subst ek
     rw [upd_same] at h9
     rcases hb z h9 with h | h
     ·exact hS.dis i k hi hk hik z hz h
     ·have:=(hS.own i hi).lt hz; omega
    ·rw [upd_ne _ _ ek] at h9; exact hS.dis i k hi hk hik z hz h9
  ·by_cases e:i=j
   ·subst e; rw [upd_same] at hci; simp at hci
   ·rw [upd_ne _ _ e] at hci ⊢; exact hS.nil i hi hci
  ·rcases hz with e | ⟨i,hi,e⟩
   ·exact .inl (.inl e)
   ·by_cases ei:i=j
    ·subst ei; rw [upd_same] at e; exact (hb z e).imp (λh=>.inr ⟨i,hi,h⟩) id
    ·rw [upd_ne _ _ ei] at e; exact .inl (.inr ⟨i,hi,e⟩)
 refine ⟨q j,by rw [aO,Nat.zero_add]; exact hS.blk.rd1 (mJ q hj),?_⟩
 refine jP (f:=λs:Slc=>[s.val]) (c:=l) ut h1 h2 h3 rfl h4 rfl rfl (by omega) (by omega) (by intro u hu; simp at hu; subst hu; rfl) (hS.own j hj) (by omega) (by omega) (λw2 hc ho hm=>?_) λb cp w2 hc hb ho p9 hm=>?_
 ·exact fin ⟨(q j).a,(q j).len+1,(q j).cap⟩ w2 (by rw [List.map_append]; exact ho) (λz hz=>.inl (by rw [<-hz]; exact mG rfl rfl)) hm
 ·exact fin ⟨some ⟨b,0,none⟩,(q j).len+1,cp⟩ w2 (by rw [List.map_append]; exact ho) (λz hz=>by rw [Slc.blk_mk] at hz; split at hz <;> simp_all) (hm.mono λ_ _ h=>h.elim)
theorem qGL {n0 B:Nat} {T:TypeId} {q:Nat->Slc} {c:Nat->List Slc} {l:Slc} (hS:eU n0 w B T q c) (hn:(c 8).length<=1000000) :
 Calls prog 130 #[.pointer (some ⟨B,0,none⟩),.slice l.a l.len l.cap] w (Ret λv w'=>v = .tuple #[]/\∃ q',eU n0 w' B T q' (upd c 8 (c 8++[l]))/\gB w q w' q' B):=by
 refine qPN _ _ ?_
 unfold qTG
 exact nZ (j:=8) (t:=80) (e:=37) (by omega) hS (by kernel_rfl) (bC (by kernel_rfl) (by kernel_rfl) (by kernel_rfl)) (by kernel_rfl) (by kernel_rfl) hn λw' q' h1 h2=>⟨rfl,q',h1,h2⟩
theorem pT {n0 B:Nat} {T:TypeId} {q:Nat->Slc} {c:Nat->List Slc} {l:Slc} (hS:eU n0 w B T q c) (hn:(c 5).length<=1000000) :
 Calls prog 131 #[.pointer (some ⟨B,0,none⟩),.slice l.a l.len l.cap] w (Ret λv w'=>v = .tuple #[]/\∃ q',eU n0 w' B T q' (upd c 5 (c 5++[l]))/\gB w q w' q' B):=by
 refine qMX _ _ ?_
 unfold qVD
 exact nZ (j:=5) (t:=77) (e:=38) (by omega) hS (by kernel_rfl) (bC (by kernel_rfl) (by kernel_rfl) (by kernel_rfl)) (by kernel_rfl) (by kernel_rfl) hn λw' q' h1 h2=>⟨rfl,q',h1,h2⟩
def gP (c c':Nat->List Slc) (ls os:List Slc) (hs:List Hd):Prop:=c' 10=c 10++ls/\c' 9=c 9++os/\c' 8=c 8++hs.map (λh=>h.d)/\c' 5=c 5++hs.flatMap (λh=>[h.f,h.g])/\∀ i,i≠5->i≠8->i≠9->i≠10->c' i=c i
theorem gP.tr {c c1 c2:Nat->List Slc} {ls h9 os k3:List Slc} {hs hs1:List Hd} (h:gP c c1 ls os hs) (h':gP c1 c2 h9 k3 hs1):gP c c2 (ls++h9) (os++k3) (hs++hs1):=by
 obtain ⟨a1,a2,a3,a4,a5⟩:=h
 obtain ⟨b1,b2,b3,b4,b5⟩:=h'
 exact ⟨by rw [b1,a1,List.append_assoc],by rw [b2,a2,List.append_assoc],by rw [b3,a3,List.map_append,List.append_assoc],by rw [b4,a4,List.flatMap_append,List.append_assoc],λi h1 h2 h3 h4=>by rw [b5 i h1 h2 h3 h4,a5 i h1 h2 h3 h4]⟩
theorem xB {n0 B:Nat} {T:TypeId} {q:Nat->Slc} {c:Nat->List Slc} {h:Hd} (hS:eU n0 w B T q c) (hn:(c 5).length<=999990) (q8:(c 8).length<=999990) :
 Calls prog 72 #[.pointer (some ⟨B,0,none⟩),h.val] w (Ret λv w'=>v = .tuple #[]/\∃ q' c',eU n0 w' B T q' c'/\gB w q w' q' B/\gP c c' [] [] [h]):=by
 refine jBX _ h.a h.b h.c h.d h.e h.f h.g ?_
 unfold jGX
 refine aQ (l:=h.cells) rfl λp w1 hN1 hb1=>⟨_,rfl,?_⟩
 have hp:=hN1.at_
 have k4 : ¬ MB q B p:=λe=>by have:=(hS.ups p e).2; omega
 have q9:p<w1.heap.size:=hb1.lt
 refine ⟨h.d,bT hb1 rfl,?_⟩
 refine aB (qGL (hS.no hN1.mod) (by omega)) ?_
 rintro v w2 ⟨rfl,q2,hS2,h9⟩
 have hb2:=hb1.mod h9.mod k4
 have k3 : ¬ MB q2 B p:=λe=>by rcases h9.up p e with g | g; exact k4 g; omega
 have hs2:=h9.mod.size
 refine ⟨rfl,h.f,bT hb2 rfl,?_⟩
 refine aB (pT hS2 (by rw [upd_ne _ _ (by omega)]; omega)) ?_
 rintro v w3 ⟨rfl,q3,k6,k5⟩
 have hb3:=hb2.mod k5.mod k3
 refine ⟨rfl,h.g,bT hb3 rfl,?_⟩
 refine aB (pT k6 (by rw [upd_same,upd_ne _ _ (by omega)]; simp; omega)) ?_
 rintro v w4 ⟨rfl,q4,p8,p9⟩
 refine ⟨rfl,rfl,q4,_,p8,(((gB.no hN1.mod).tr h9).tr k5).tr p9,?_⟩
 refine ⟨by simp [upd],by simp [upd],by simp [upd],by simp [upd],λi h1 h2 h3 h4=>by simp [upd,h1,h2]⟩
theorem oD {n0 B:Nat} {T:TypeId} {q:Nat->Slc} {c:Nat->List Slc} {l:Slc} {hs:List Hd} (hS:eU n0 w B T q c) (hl:aK w l 7 (hcells hs)) (hlb : ∀ z,l.blk=some z->z<n0) (hn:(c 5).length+2*hs.length<=999990) (q8:(c 8).length+hs.length<=999990) (q9:(c 9).length<=999990) :
 Calls prog 38 #[.pointer (some ⟨B,0,none⟩),.slice l.a l.len l.cap] w (Ret λv w'=>v = .tuple #[]/\∃ q' c',eU n0 w' B T q' c'/\gB w q w' q' B/\gP c c' [] [l] hs):=by
 refine jBE _ _ ?_
 unfold jEI
 have hll:=bA Hd.len (by omega) hl
 refine nZ (j:=9) (t:=33) (e:=22) (by omega) hS (by kernel_rfl) (bC (by kernel_rfl) (by kernel_rfl) (by kernel_rfl)) (by kernel_rfl) (by kernel_rfl) (by omega) λw1 q1 hS1 k5=>?_
 refine ⟨λl' w'=>match l' with | [.i _ i]=>∃ (k:Nat) (q':Nat->Slc) (c':Nat->List Slc),i=k/\k<=hs.length/\eU n0 w' B T q' c'/\gB w q w' q' B/\gP c c' [] [l] (hs.take k) | _=>False,λl' _=>match l' with | [.i _ i]=>(hs.length - i).toNat | _=>0,
  ⟨0,q1,_,rfl,by omega,hS1,k5,⟨by simp [upd],by simp [upd],by simp [upd],by simp [upd],λi h1 h2 h3 h4=>by simp [upd,h3]⟩⟩,?_⟩
 rintro i w2 ⟨k,q2,c2,rfl,hk,hS2,k3,k4⟩
 have hup : ∀ z,MB q B z->n0<=z:=λz hz=>(hS.ups z hz).1
 refine aC (λhlt=>?_) λhge=>?_
 ·have h9:k<hs.length:=by simp at hlt; omega
  have hl2:aK w2 l 7 (hcells hs):=hl.mod k3.mod λz hz e=>by have:=hlb z hz; have:=hup z e; omega
  obtain ⟨a,ea,hr⟩:=aZ Hd.len (by omega) hl2 h9
  refine ⟨⟨by omega,by omega⟩,?_⟩
  rw [ea]
  obtain ⟨p1,p2,p3,p4,p5⟩:=k4
  have e8:(c2 8).length=(c 8).length+k:=by rw [p3]; simp; omega
  have e5:(c2 5).length=(c 5).length+2*k:=by
   have : ∀ m:List Hd,(m.flatMap λh=>[h.f,h.g]).length=2*m.length:=λm=>by
    induction m with
    | nil=>rfl
    | cons a m ih=>rw [List.flatMap_cons,List.length_append,ih]; simp; omega
   rw [p4,List.length_append,this,List.length_take]; omega
  refine ⟨hs[k].a,hs[k].b,hs[k].c,hs[k].d,hs[k].e,hs[k].f,hs[k].g,hr,?_⟩
  refine aB (xB (h:=hs[k]) hS2 (by omega) (by omega)) ?_
  rintro v w3 ⟨rfl,q3,c3,k6,p8,p9⟩
  rw [aI (by omega)]
  refine ⟨rfl,⟨k+1,q3,c3,rfl,by omega,k6,k3.tr p8,?_⟩,by (try simp only []); omega⟩
  have:=gP.tr ⟨p1,p2,p3,p4,p5⟩ p9
  rw [aL h9]
  simpa using this
 ·have h9:k=hs.length:=by simp at hge; omega
  subst h9
  rw [List.take_length] at k4
  exact ⟨rfl,q2,c2,hS2,k3,k4⟩
end
def E (l:List Slc) (z:Nat):Prop:=∃ s∈l,s.blk=some z
theorem lJ : ∀ hs:List Hd,(hs.flatMap (λh=>[h.f,h.g])++hs.map λh=>h.d).Perm (pieces hs)
 | []=>.refl _
 | h :: hs=>by
   have ih:=lJ hs
   simp only [List.flatMap_cons,List.map_cons,pieces,List.cons_append,List.nil_append]
   refine (((List.perm_middle (a:=h.d) (l₁:=hs.flatMap λh=>[h.f,h.g]) (l₂:=hs.map λh=>h.d)).cons h.g).cons h.f).trans ?_
   refine (((List.Perm.swap h.d h.g _).cons h.f).trans (List.Perm.swap h.d h.f _)).trans ?_
   exact ((ih.cons h.g).cons h.f).cons h.d
theorem jCF {ss:List Slc} (h:ss.Pairwise Dis) : ∀ i j,i<ss.length->j<ss.length->i≠j->∀ x,(sl ss i).blk=some x->(sl ss j).blk≠some x:=by
 intro i j hi hj hij x hx
 rw [List.pairwise_iff_getElem] at h
 rw [pR hi] at hx
 rw [pR hj]
 rcases Nat.lt_or_gt_of_ne hij with e | e
 ·exact h i j hi hj e x hx
 ·exact (h j i hj hi e).symm x hx
theorem qJF {ss:List Slc} {x:Nat} (h:UB ss x):E ss x:=by
 obtain ⟨k,hk,e⟩:=h
 exact ⟨_,List.getElem_mem hk,by rw [<-pR hk]; exact e⟩
theorem jDR {P:Slc->Prop} {ss:List Slc} (h : ∀ s∈ss,P s) : ∀ k,k<ss.length->P (sl ss k):=λk hk=>by rw [pR hk]; exact h _ (List.getElem_mem hk)
def rP (f:FuncId) (OW:World->Slc->Prop):Prop:=∀ (w:World) (ls:Slc) (ss:List Slc),aK w ls 1 (ss.map Slc.val)->(∀ k,k<ss.length->∀ x,(sl ss k).blk=some x->ls.blk≠some x)->(∀ k,k<ss.length->OW w (sl ss k)/\(sl ss k).len<=1000000000)->(∀ i j,i<ss.length->j<ss.length->i≠j->∀ x,(sl ss i).blk=some x->(sl ss j).blk≠some x)->ss.length<=1000000->
 Calls prog f #[.slice ls.a ls.len ls.cap] w (Ret λv w'=>v = .bool true/\Mod (UB ss) w w')
def OwV (K:Nat) (w:World) (s:Slc):Prop:=∃ vs,Sh.Own w s K vs
def OwM (OW:World->Slc->Prop):Prop:=∀ (w w':World) (S:Nat->Prop) (s:Slc),OW w s->Mod S w w'->(∀ z,s.blk=some z->¬ S z)->OW w' s
theorem qQ {K:Nat} : OwM (OwV K):=λw w' S s h hm hs=>h.imp λ_ g=>g.mod hm hs
theorem qNK:rP 78 (OwV 1):=λw ls ss h1 h2 h3 h4 h5=>yS h1 h2 h3 h4 h5
theorem qZP:rP 81 (OwV 2):=λw ls ss h1 h2 h3 h4 h5=>zQ h1 h2 h3 h4 h5
theorem qGG:rP 82 (OwV 7):=λw ls ss h1 h2 h3 h4 h5=>tL h1 h2 h3 h4 h5
theorem qIJ:rP 83 (OwV 2):=λw ls ss h1 h2 h3 h4 h5=>vX h1 h2 h3 h4 h5
theorem cH {w w1:World} {n0 B j:Nat} {T:TypeId} {q:Nat->Slc} {c:Nat->List Slc} {f:FuncId} {l:List Slc} {pan:List PanicEntry->zP} {K F:zP} (hS:eU n0 w1 B T q c) (hm:Mod (E l) w w1) (hj:j<24) (hc:c j=[]) (hf:bS f) (hK : ∀ w',eU n0 w' B T q c->Mod (E l) w w'->K w') :
 ∃ x:Slc,Rd w1 ((⟨B,0,none⟩:Addr).add j) [(.slice x.a x.len x.cap)]/\aD prog f [(.slice x.a x.len x.cap)] w1 pan λv w1=>∃ x1:Bool,v=(.bool x1)/\aE x1 (K w1) (F w1):=by
 refine ⟨⟨none,0,0⟩,?_,aB (hf w1) ?_⟩
 ·rw [aO,Nat.zero_add]; exact hS.blk.rd1 (by rw [mJ q hj,hS.nil j hj hc]; rfl)
 ·rintro v w2 ⟨rfl,h9⟩
  exact ⟨true,rfl,aC (λ_=>hK w2 (hS.no h9) (hm.no' h9)) λe=>by cases e⟩
theorem yI {w w1:World} {n0 B j:Nat} {T:TypeId} {q:Nat->Slc} {c:Nat->List Slc} {f:FuncId} {l:List Slc} {pan:List PanicEntry->zP} {K:Bool->zP} (hS:eU n0 w1 B T q c) (hm:Mod (E l) w w1) (hj:j<24) (hc:c j=[]) (hf:bS f) (hK : ∀ w',Mod (E l) w w'->K true w') :
 ∃ x:Slc,Rd w1 ((⟨B,0,none⟩:Addr).add j) [(.slice x.a x.len x.cap)]/\aD prog f [(.slice x.a x.len x.cap)] w1 pan λv w1=>∃ x1:Bool,v=(.bool x1)/\K x1 w1:=by
 refine ⟨⟨none,0,0⟩,?_,aB (hf w1) ?_⟩
 ·rw [aO,Nat.zero_add]; exact hS.blk.rd1 (by rw [mJ q hj,hS.nil j hj hc]; rfl)
 ·rintro v w2 ⟨rfl,h9⟩
  exact ⟨true,rfl,hK w2 (hm.no' h9)⟩
theorem oR {w w1:World} {n0 B j:Nat} {T:TypeId} {q:Nat->Slc} {c:Nat->List Slc} {f:FuncId} {OW:World->Slc->Prop} {l:List Slc} {pan:List PanicEntry->zP} {K F:zP} (hO:OwM OW) (hf:rP f OW) (hS:eU n0 w1 B T q c) (hm:Mod (E l) w w1) (hj:j<24) (ho : ∀ s∈c j,OW w s/\s.len<=1000000000) (hlow : ∀ s∈c j,∀ z,s.blk=some z->z<n0) (k3:(c j).Pairwise Dis) (hx : ∀ a∈l,∀ b∈c j,Dis a b) (hn:(c j).length<=1000000)
 (hK : ∀ w',eU n0 w' B T q c->Mod (E (l++c j)) w w'->K w') :
 ∃ x:Slc,Rd w1 ((⟨B,0,none⟩:Addr).add j) [(.slice x.a x.len x.cap)]/\aD prog f [(.slice x.a x.len x.cap)] w1 pan λv w1=>∃ x1:Bool,v=(.bool x1)/\aE x1 (K w1) (F w1):=by
 refine ⟨q j,by rw [aO,Nat.zero_add]; exact hS.blk.rd1 (mJ q hj),aB (hf w1 (q j) (c j) (hS.own j hj).rd (λk hk x hx k4=>?_) (jDR (P:=λs=>OW w1 s/\s.len<=1000000000) λs hs=>⟨hO _ _ _ _ (ho s hs).1 hm λz hz k5=>?_,(ho s hs).2⟩) (jCF k3) hn) ?_⟩
 ·rw [pR hk] at hx
  have:=hlow _ (List.getElem_mem hk) x hx
  have:=(hS.lo j hj x k4).1
  omega
 ·obtain ⟨a,ha,e⟩:=k5
  exact hx a ha s hs z e hz
 ·rintro v w2 ⟨rfl,h9⟩
  refine ⟨true,rfl,aC (λ_=>hK w2 (hS.mod h9 λz hz hu=>?_) (hm.trans h9 (λz _ ⟨a,ha,e⟩=>⟨a,List.mem_append_left _ ha,e⟩) λz _ hu=>?_)) λe=>by cases e⟩
  ·obtain ⟨s,hs,e⟩:=qJF hu
   have:=hlow s hs z e; have:=(hS.ups z hz).1; omega
  ·obtain ⟨s,hs,e⟩:=qJF hu
   exact ⟨s,List.mem_append_right _ hs,e⟩
section
variable {w:World}
theorem yM {n0 B:Nat} {T:TypeId} {q:Nat->Slc} {c:Nat->List Slc} (hS:eU n0 w B T q c) (hc : ∀ i,i≠5->i≠8->i≠9->i≠10->c i=[])
 (hy : ∀ s∈c 5,OwV 1 w s/\s.len<=1000000000) (hd : ∀ s∈c 8,OwV 2 w s/\s.len<=1000000000) (hr : ∀ s∈c 9,OwV 7 w s/\s.len<=1000000000) (hl : ∀ s∈c 10,OwV 2 w s/\s.len<=1000000000)
 (hlow : ∀ s∈c 5++c 8++c 9++c 10,∀ z,s.blk=some z->z<n0) (hp:(c 5++c 8++c 9++c 10).Pairwise Dis) (hn : ∀ i,(c i).length<=1000000) :
 Calls prog 39 #[.pointer (some ⟨B,0,none⟩)] w (Ret λv w'=>v = .bool true/\Mod (E (c 5++c 8++c 9++c 10)) w w'):=by
 refine jBT _ ?_
 unfold jHB
 obtain ⟨p1,p2,p3⟩:=List.pairwise_append.1 hp
 obtain ⟨p4,p5,p6⟩:=List.pairwise_append.1 p1
 obtain ⟨p7,p8,p9⟩:=List.pairwise_append.1 p4
 have m0:Mod (E []) w w:=Mod.refl _ _
 refine cH hS m0 (by omega) (hc 0 (by omega) (by omega) (by omega) (by omega)) qEY λw1 b1 m1=>?_
 refine cH b1 m1 (by omega) (hc 1 (by omega) (by omega) (by omega) (by omega)) qFM λw2 b2 m2=>?_
 refine cH b2 m2 (by omega) (hc 2 (by omega) (by omega) (by omega) (by omega)) qIV λw3 b3 m3=>?_
 refine cH b3 m3 (by omega) (hc 3 (by omega) (by omega) (by omega) (by omega)) qFR λw4 b4 m4=>?_
 refine cH b4 m4 (by omega) (hc 4 (by omega) (by omega) (by omega) (by omega)) qFS λw5 b5 m5=>?_
 refine oR qQ qNK b5 m5 (by omega) hy (λs hs=>hlow s (by simp [hs])) p7 (λa ha=>by simp at ha) (hn 5) λw6 b6 m6=>?_
 rw [List.nil_append] at m6
 refine cH b6 m6 (by omega) (hc 6 (by omega) (by omega) (by omega) (by omega)) qAP λw7 b7 m7=>?_
 refine cH b7 m7 (by omega) (hc 7 (by omega) (by omega) (by omega) (by omega)) qHP λw8 b8 m8=>?_
 refine oR qQ qZP b8 m8 (by omega) hd (λs hs=>hlow s (by simp [hs])) p8 p9 (hn 8) λw9 b9 m9=>?_
 refine oR qQ qGG b9 m9 (by omega) hr (λs hs=>hlow s (by simp [hs])) p5 p6 (hn 9) λu1 b10 m10=>?_
 refine oR qQ qIJ b10 m10 (by omega) hl (λs hs=>hlow s (by simp [hs])) p2 p3 (hn 10) λu2 b11 m11=>?_
 refine cH b11 m11 (by omega) (hc 11 (by omega) (by omega) (by omega) (by omega)) qBJ λu3 b12 m12=>?_
 refine cH b12 m12 (by omega) (hc 12 (by omega) (by omega) (by omega) (by omega)) qFP λu4 b13 m13=>?_
 refine cH b13 m13 (by omega) (hc 13 (by omega) (by omega) (by omega) (by omega)) qEV λu5 h9 m14=>?_
 refine cH h9 m14 (by omega) (hc 14 (by omega) (by omega) (by omega) (by omega)) qAT λu6 k3 m15=>?_
 refine cH k3 m15 (by omega) (hc 15 (by omega) (by omega) (by omega) (by omega)) qGA λu7 k4 m16=>?_
 refine cH k4 m16 (by omega) (hc 16 (by omega) (by omega) (by omega) (by omega)) qH λu9 k5 m17=>?_
 refine cH k5 m17 (by omega) (hc 17 (by omega) (by omega) (by omega) (by omega)) qAQ λv1 k6 m18=>?_
 refine cH k6 m18 (by omega) (hc 18 (by omega) (by omega) (by omega) (by omega)) wX λv6 q8 m19=>?_
 refine cH q8 m19 (by omega) (hc 19 (by omega) (by omega) (by omega) (by omega)) xX λv7 q9 m20=>?_
 refine cH q9 m20 (by omega) (hc 20 (by omega) (by omega) (by omega) (by omega)) yG λv8 t6 m21=>?_
 refine cH t6 m21 (by omega) (hc 21 (by omega) (by omega) (by omega) (by omega)) yQ λy0 t7 m22=>?_
 refine cH t7 m22 (by omega) (hc 22 (by omega) (by omega) (by omega) (by omega)) qEI λy1 u0 m23=>?_
 exact yI u0 m23 (by omega) (hc 23 (by omega) (by omega) (by omega) (by omega)) qES λy2 m24=>⟨rfl,m24⟩
theorem qFU {n0 B:Nat} {T:TypeId} {q:Nat->Slc} {c:Nat->List Slc} {e:zY×Slc} {hs:List Hd} (hS:eU n0 w B T q c) (hl:aK w e.2 7 (hcells hs)) (hlb : ∀ z,e.2.blk=some z->z<n0) (hn:(c 5).length+2*hs.length<=999990) (h9:(c 8).length+hs.length<=999990) (k3:(c 9).length<=999990) :
 Calls prog 97 #[.pointer (some ⟨B,0,none⟩),.agg (dG e).toArray] w (Ret λv w'=>v = .tuple #[]/\∃ q' c',eU n0 w' B T q' c'/\gB w q w' q' B/\gP c c' [] [e.2] hs):=by
 refine qYX _ e.1 e.2 ?_
 unfold jHL
 refine aQ (l:=dG e) rfl λp w1 hN1 hb1=>⟨_,rfl,?_⟩
 refine ⟨e.2,by rw [aO]; exact hb1.rd1 rfl,?_⟩
 refine aB (oD (hS.no hN1.mod) (hl.no hN1.mod) hlb hn h9 k3) ?_
 rintro v w2 ⟨rfl,q2,c2,hS2,k4,k5⟩
 exact ⟨rfl,rfl,q2,c2,hS2,(gB.no hN1.mod).tr k4,k5⟩
theorem pl2 : ∀ m:List Hd,(m.flatMap λh=>[h.f,h.g]).length=2*m.length
 | []=>rfl
 | a :: m=>by rw [List.flatMap_cons,List.length_append,pl2 m]; simp; omega
theorem zH {n0 B:Nat} {T:TypeId} {q:Nat->Slc} {c:Nat->List Slc} {l:Slc} {es:List ((zY×Slc)×List Hd)} (hS:eU n0 w B T q c) (hl:aK w l 2 (aR dG (es.map (·.1)))) (hlb : ∀ z,l.blk=some z->z<n0)
 (he : ∀ e∈es,aK w e.1.2 7 (hcells e.2)/\∀ z,e.1.2.blk=some z->z<n0)
 (hn:(c 5).length+2*(es.flatMap (·.2)).length<=999990) (q9:(c 8).length+(es.flatMap (·.2)).length<=999990) (t6:(c 9).length+es.length<=999990) (k5:(c 10).length<=999990) :
 Calls prog 40 #[.pointer (some ⟨B,0,none⟩),.slice l.a l.len l.cap] w (Ret λv w'=>v = .tuple #[]/\∃ q' c',eU n0 w' B T q' c'/\gB w q w' q' B/\gP c c' [l] (es.map (·.1.2)) (es.flatMap (·.2))):=by
 refine jCM _ _ ?_
 unfold jDV
 have hll:=bA cL (by omega) hl
 rw [List.length_map] at hll
 refine nZ (j:=10) (t:=35) (e:=26) (by omega) hS (by kernel_rfl) (bC (by kernel_rfl) (by kernel_rfl) (by kernel_rfl)) (by kernel_rfl) (by kernel_rfl) (by omega) λw1 q1 hS1 k6=>?_
 refine ⟨λl' w'=>match l' with | [.i _ i]=>∃ (k:Nat) (q':Nat->Slc) (c':Nat->List Slc),i=k/\k<=es.length/\eU n0 w' B T q' c'/\gB w q w' q' B/\gP c c' [l] ((es.take k).map (·.1.2)) ((es.take k).flatMap (·.2)) | _=>False,λl' _=>match l' with | [.i _ i]=>(es.length - i).toNat | _=>0,
  ⟨0,q1,_,rfl,by omega,hS1,k6,⟨by simp [upd],by simp [upd],by simp [upd],by simp [upd],λi h1 h2 h3 h4=>by simp [upd,h4]⟩⟩,?_⟩
 rintro i w2 ⟨k,q2,c2,rfl,hk,hS2,k3,k4⟩
 have hup : ∀ z,MB q B z->n0<=z:=λz hz=>(hS.ups z hz).1
 refine aC (λhlt=>?_) λhge=>?_
 ·have h9:k<es.length:=by simp at hlt; omega
  have hl2:aK w2 l 2 (aR dG (es.map (·.1))):=hl.mod k3.mod λz hz e=>by have:=hlb z hz; have:=hup z e; omega
  obtain ⟨a,ea,hr⟩:=aZ cL (by omega) hl2 (i:=k) (by simpa using h9)
  rw [List.getElem_map] at hr
  refine ⟨⟨by omega,by omega⟩,?_⟩
  rw [ea]
  obtain ⟨p1,p2,p3,p4,p5⟩:=k4
  have hle:((es.take k).flatMap (·.2)).length+es[k].2.length<=(es.flatMap (·.2)).length:=by
   have e1:es.flatMap (·.2)=(es.take (k+1)).flatMap (·.2)++(es.drop (k+1)).flatMap (·.2):=by rw [<-List.flatMap_append,List.take_append_drop]
   rw [e1,aL h9,List.flatMap_append,List.length_append,List.length_append]
   simp
  have e8:(c2 8).length=(c 8).length+((es.take k).flatMap (·.2)).length:=by rw [p3,List.length_append,List.length_map]
  have e5:(c2 5).length=(c 5).length+2*((es.take k).flatMap (·.2)).length:=by rw [p4,List.length_append,pl2]
  have e9:(c2 9).length=(c 9).length+k:=by rw [p2,List.length_append,List.length_map,List.length_take]; omega
  obtain ⟨g1,g2⟩:=he es[k] (List.getElem_mem h9)
  refine ⟨es[k].1.1,es[k].1.2,hr,?_⟩
  refine aB (qFU (e:=es[k].1) (hs:=es[k].2) hS2 (g1.mod k3.mod λz hz e=>by have:=g2 z hz; have:=hup z e; omega) g2 (by omega) (by omega) (by omega)) ?_
  rintro v w3 ⟨rfl,q3,c3,p8,p9,q8⟩
  rw [aI (by omega)]
  refine ⟨rfl,⟨k+1,q3,c3,rfl,by omega,p8,k3.tr p9,?_⟩,by (try simp only []); omega⟩
  have:=gP.tr ⟨p1,p2,p3,p4,p5⟩ q8
  rw [aL h9,List.map_append,List.flatMap_append]
  simpa using this
 ·have h9:k=es.length:=by simp at hge; omega
  subst h9
  rw [List.take_length] at k4
  exact ⟨rfl,q2,c2,hS2,k3,k4⟩
theorem jDW {b:Nat} {w':World} {T:TypeId} {n0:Nat} (hb:Blk w' b (oZ λ_=>⟨none,0,0⟩) T) (h0:n0<=b):eU n0 w' b T (λ_=>⟨none,0,0⟩) (λ_=>[]):=
 ⟨hb,λi hi=>bK _ _,λi hi z hz=>(by simp at hz),λi j hi hj hij z hz=>(by simp at hz),λi hi _=>rfl,h0⟩
theorem qHV {hs:List Hd} (ho : ∀ h∈hs,fN w h):(∀ s∈hs.flatMap (λh=>[h.f,h.g]),OwV 1 w s/\s.len<=1000000000)/\∀ s∈hs.map (λh=>h.d),OwV 2 w s/\s.len<=1000000000:=by
 refine ⟨λs h9=>?_,λs h9=>?_⟩
 ·obtain ⟨h,hh,e⟩:=List.mem_flatMap.1 h9
  simp at e
  rcases e with rfl | rfl
  ·exact (ho h hh).f
  ·exact (ho h hh).g
 ·obtain ⟨h,hh,rfl⟩:=List.mem_map.1 h9
  exact ⟨(ho h hh).d.1.elim λl g=>⟨_,g⟩,(ho h hh).d.2⟩
theorem rK {ls:Slc} {es:List (Slc×List Hd)} (hls:aK w ls 1 ((es.map (·.1)).map Slc.val)) (hlb : ∀ z,ls.blk=some z->z<w.heap.size) (hr : ∀ e∈es,Sh.Own w e.1 7 (hcells e.2)/\e.1.len<=1000000000) (ho : ∀ h∈es.flatMap (·.2),fN w h)
 (hp:(pieces (es.flatMap (·.2))++es.map (·.1)).Pairwise Dis) (hn:(es.flatMap (·.2)).length<=400000) (hne:es.length<=900000) :
 Calls prog 17 #[.slice ls.a ls.len ls.cap] w (Ret λv w'=>v = .bool true/\Mod (E (pieces (es.flatMap (·.2))++es.map (·.1))) w w'):=by
 refine jBM _ ?_
 unfold jEC
 have hll:es.length=ls.len:=by have:=hls.1; simp at this; omega
 refine aQ (l:=oZ λ_=>⟨none,0,0⟩) rfl λB w1 hN1 hb1=>⟨_,rfl,?_⟩
 have hat:=hN1.at_
 have hS1:=jDW (n0:=w.heap.size) hb1 (by omega)
 have hlow : ∀ e∈es,∀ z,e.1.blk=some z->z<w.heap.size:=λe he z hz=>(hr e he).1.lt hz
 refine ⟨λl' w'=>match l' with | [.i _ i]=>∃ (k:Nat) (q':Nat->Slc) (c':Nat->List Slc),i=k/\k<=es.length/\eU w.heap.size w' B _ q' c'/\Mod NoB w w'/\gP (λ_=>[]) c' [] ((es.take k).map (·.1)) ((es.take k).flatMap (·.2)) | _=>False,λl' _=>match l' with | [.i _ i]=>(es.length - i).toNat | _=>0,
  ⟨0,_,_,rfl,by omega,hS1,hN1.mod,⟨rfl,rfl,rfl,rfl,λi h1 h2 h3 h4=>rfl⟩⟩,?_⟩
 rintro i w2 ⟨k,q2,c2,rfl,hk,hS2,k5,k6⟩
 refine aC (λhlt=>?_) λhge=>?_
 ·have k4:k<es.length:=by simp at hlt; omega
  obtain ⟨la,el⟩:=rD hls (by simp; omega)
  have p8:=tW (w':=w2) hls el (k:=k) (by simpa using k4) k5
  have esl:sl (es.map (·.1)) k=es[k].1:=by rw [pR (by simpa using k4),List.getElem_map]
  rw [esl] at p8
  obtain ⟨p1,p2,p3,p4,p5⟩:=k6
  have hle:((es.take k).flatMap (·.2)).length+es[k].2.length<=(es.flatMap (·.2)).length:=by
   have e1:es.flatMap (·.2)=(es.take (k+1)).flatMap (·.2)++(es.drop (k+1)).flatMap (·.2):=by rw [<-List.flatMap_append,List.take_append_drop]
   rw [e1,aL k4,List.flatMap_append,List.length_append,List.length_append]
   simp
  have e8:(c2 8).length=((es.take k).flatMap (·.2)).length:=by rw [p3]; simp
  have e5:(c2 5).length=2*((es.take k).flatMap (·.2)).length:=by rw [p4,List.length_append,pl2]; simp
  have e9:(c2 9).length=k:=by rw [p2,List.length_append,List.length_map,List.length_take]; simp; omega
  obtain ⟨g1,g2⟩:=hr es[k] (List.getElem_mem k4)
  refine ⟨⟨by omega,by omega⟩,bY el ⟨es[k].1,p8,?_⟩⟩
  refine aB (oD (hs:=es[k].2) hS2 (g1.no k5).rd (hlow _ (List.getElem_mem k4)) (by omega) (by omega) (by omega)) ?_
  rintro v w3 ⟨rfl,q3,c3,p9,q8,q9⟩
  rw [aI (by omega)]
  refine ⟨rfl,⟨k+1,q3,c3,rfl,by omega,p9,k5.fresh q8.mod λz hz=>(hS2.ups z hz).1,?_⟩,by (try simp only []); omega⟩
  have:=gP.tr ⟨p1,p2,p3,p4,p5⟩ q9
  rw [aL k4,List.map_append,List.flatMap_append]
  simpa using this
 ·have k4:k=es.length:=by simp at hge; omega
  subst k4
  rw [List.take_length] at k6
  obtain ⟨p1,p2,p3,p4,p5⟩:=k6
  simp only [List.nil_append] at p1 p2 p3 p4
  obtain ⟨o1,o2⟩:=qHV λh hh=>(ho h hh).no k5
  have k3:(c2 5++c2 8++c2 9++c2 10).Perm (pieces (es.flatMap (·.2))++es.map (·.1)):=by
   rw [p1,p2,p3,p4,List.append_nil]
   exact (lJ _).append_right _
  refine aB (yM hS2 p5 (by rw [p4]; exact o1) (by rw [p3]; exact o2) (by
   rw [p2]; intro s hs
   obtain ⟨e,he,rfl⟩:=List.mem_map.1 hs
   exact ⟨⟨_,(hr e he).1.no k5⟩,(hr e he).2⟩) (by rw [p1]; intro s hs; simp at hs) (λs hs z hz=>?_) ((k3.pairwise_iff λ{a b}=>Dis.symm).2 hp) (λi=>?_)) ?_
  ·have hs:=k3.mem_iff.1 hs
   rcases List.mem_append.1 hs with hs | hs
   ·obtain ⟨h,hh,e⟩:=List.mem_flatMap.1 hs
    simp at e
    rcases e with rfl | rfl | rfl
    ·obtain ⟨l,g⟩:=(ho h hh).d.1; exact g.lt hz
    ·obtain ⟨l,g⟩:=(ho h hh).f.1; exact g.lt hz
    ·obtain ⟨l,g⟩:=(ho h hh).g.1; exact g.lt hz
   ·obtain ⟨e,he,rfl⟩:=List.mem_map.1 hs
    exact hlow e he z hz
  ·by_cases h5:i=5
   ·subst h5; rw [p4,pl2]; omega
   ·by_cases h8:i=8
    ·subst h8; rw [p3,List.length_map]; omega
    ·by_cases h9:i=9
     ·subst h9; rw [p2,List.length_map]; omega
     ·by_cases h10:i=10
      ·subst h10; rw [p1]; simp
      ·rw [p5 i h5 h8 h9 h10]; simp
  ·rintro v w3 ⟨rfl,t6⟩
   refine ⟨_,rfl,rfl,(k5.no t6).mono λz _ ⟨s,hs,e⟩=>⟨s,k3.mem_iff.1 hs,e⟩⟩
theorem tK {ls:Slc} {es:List (Slc×List ((zY×Slc)×List Hd))} (hls:aK w ls 1 ((es.map (·.1)).map Slc.val)) (hlb : ∀ z,ls.blk=some z->z<w.heap.size) (hr : ∀ e∈es,Sh.Own w e.1 2 (aR dG (e.2.map (·.1)))/\e.1.len<=1000000000)
 (hq : ∀ e∈es.flatMap (·.2),Sh.Own w e.1.2 7 (hcells e.2)/\e.1.2.len<=1000000000) (ho : ∀ h∈(es.flatMap (·.2)).flatMap (·.2),fN w h)
 (hp:(pieces ((es.flatMap (·.2)).flatMap (·.2))++(es.flatMap (·.2)).map (·.1.2)++es.map (·.1)).Pairwise Dis) (hn:((es.flatMap (·.2)).flatMap (·.2)).length<=400000) (hne:es.length<=900000) (hnq:(es.flatMap (·.2)).length<=900000) :
 Calls prog 18 #[.slice ls.a ls.len ls.cap] w (Ret λv w'=>v = .bool true/\Mod (E (pieces ((es.flatMap (·.2)).flatMap (·.2))++(es.flatMap (·.2)).map (·.1.2)++es.map (·.1))) w w'):=by
 refine jBI _ ?_
 unfold jFL
 have hll:es.length=ls.len:=by have:=hls.1; simp at this; omega
 refine aQ (l:=oZ λ_=>⟨none,0,0⟩) rfl λB w1 hN1 hb1=>⟨_,rfl,?_⟩
 have hat:=hN1.at_
 have hS1:=jDW (n0:=w.heap.size) hb1 (by omega)
 have hlow : ∀ e∈es,∀ z,e.1.blk=some z->z<w.heap.size:=λe he z hz=>(hr e he).1.lt hz
 have k5 : ∀ e∈es.flatMap (·.2),∀ z,e.1.2.blk=some z->z<w.heap.size:=λe he z hz=>(hq e he).1.lt hz
 refine ⟨λl' w'=>match l' with | [.i _ i]=>∃ (k:Nat) (q':Nat->Slc) (c':Nat->List Slc),i=k/\k<=es.length/\eU w.heap.size w' B _ q' c'/\Mod NoB w w'/\gP (λ_=>[]) c' ((es.take k).map (·.1)) (((es.take k).flatMap (·.2)).map (·.1.2)) (((es.take k).flatMap (·.2)).flatMap (·.2)) | _=>False,λl' _=>match l' with | [.i _ i]=>(es.length - i).toNat | _=>0,
  ⟨0,_,_,rfl,by omega,hS1,hN1.mod,⟨rfl,rfl,rfl,rfl,λi h1 h2 h3 h4=>rfl⟩⟩,?_⟩
 rintro i w2 ⟨k,q2,c2,rfl,hk,hS2,k6,p8⟩
 refine aC (λhlt=>?_) λhge=>?_
 ·have k4:k<es.length:=by simp at hlt; omega
  obtain ⟨la,el⟩:=rD hls (by simp; omega)
  have p9:=tW (w':=w2) hls el (k:=k) (by simpa using k4) k6
  have esl:sl (es.map (·.1)) k=es[k].1:=by rw [pR (by simpa using k4),List.getElem_map]
  rw [esl] at p9
  obtain ⟨p1,p2,p3,p4,p5⟩:=p8
  have e1:es.flatMap (·.2)=(es.take k).flatMap (·.2)++(es[k].2++(es.drop (k+1)).flatMap (·.2)):=by
   have e0:es.flatMap (·.2)=(es.take (k+1)).flatMap (·.2)++(es.drop (k+1)).flatMap (·.2):=by rw [<-List.flatMap_append,List.take_append_drop]
   rw [e0,aL k4,List.flatMap_append]
   simp
  have hle:((es.take k).flatMap (·.2)).length+es[k].2.length<=(es.flatMap (·.2)).length:=by
   rw [e1,List.length_append,List.length_append]; omega
  have q8:(((es.take k).flatMap (·.2)).flatMap (·.2)).length+(es[k].2.flatMap (·.2)).length<=((es.flatMap (·.2)).flatMap (·.2)).length:=by
   rw [e1,List.flatMap_append,List.flatMap_append,List.length_append,List.length_append]; omega
  have e8:(c2 8).length=(((es.take k).flatMap (·.2)).flatMap (·.2)).length:=by rw [p3]; simp
  have e5:(c2 5).length=2*(((es.take k).flatMap (·.2)).flatMap (·.2)).length:=by rw [p4,List.length_append,pl2]; simp
  have e9:(c2 9).length=((es.take k).flatMap (·.2)).length:=by rw [p2,List.length_append,List.length_map]; simp
  have e10:(c2 10).length=k:=by rw [p1,List.length_append,List.length_map,List.length_take]; simp; omega
  obtain ⟨g1,g2⟩:=hr es[k] (List.getElem_mem k4)
  have hin : ∀ e∈es[k].2,e∈es.flatMap (·.2):=λe he=>List.mem_flatMap.2 ⟨_,List.getElem_mem k4,he⟩
  refine ⟨⟨by omega,by omega⟩,bY el ⟨es[k].1,p9,?_⟩⟩
  refine aB (zH (es:=es[k].2) hS2 (g1.no k6).rd (hlow _ (List.getElem_mem k4)) (λe he=>⟨((hq e (hin e he)).1.no k6).rd,k5 e (hin e he)⟩) (by omega) (by omega) (by omega) (by omega)) ?_
  rintro v w3 ⟨rfl,q3,c3,q9,t6,t7⟩
  rw [aI (by omega)]
  refine ⟨rfl,⟨k+1,q3,c3,rfl,by omega,q9,k6.fresh t6.mod λz hz=>(hS2.ups z hz).1,?_⟩,by (try simp only []); omega⟩
  have:=gP.tr ⟨p1,p2,p3,p4,p5⟩ t7
  rw [aL k4,List.map_append,List.flatMap_append,List.flatMap_append,List.map_append]
  simpa using this
 ·have k4:k=es.length:=by simp at hge; omega
  subst k4
  rw [List.take_length] at p8
  obtain ⟨p1,p2,p3,p4,p5⟩:=p8
  simp only [List.nil_append] at p1 p2 p3 p4
  obtain ⟨o1,o2⟩:=qHV λh hh=>(ho h hh).no k6
  have k3:(c2 5++c2 8++c2 9++c2 10).Perm (pieces ((es.flatMap (·.2)).flatMap (·.2))++(es.flatMap (·.2)).map (·.1.2)++es.map (·.1)):=by
   rw [p1,p2,p3,p4]
   exact ((lJ _).append_right _).append_right _
  refine aB (yM hS2 p5 (by rw [p4]; exact o1) (by rw [p3]; exact o2) (by
   rw [p2]; intro s hs
   obtain ⟨e,he,rfl⟩:=List.mem_map.1 hs
   exact ⟨⟨_,(hq e he).1.no k6⟩,(hq e he).2⟩) (by
   rw [p1]; intro s hs
   obtain ⟨e,he,rfl⟩:=List.mem_map.1 hs
   exact ⟨⟨_,(hr e he).1.no k6⟩,(hr e he).2⟩) (λs hs z hz=>?_) ((k3.pairwise_iff λ{a b}=>Dis.symm).2 hp) (λi=>?_)) ?_
  ·have hs:=k3.mem_iff.1 hs
   rcases List.mem_append.1 hs with hs | hs
   ·rcases List.mem_append.1 hs with hs | hs
    ·obtain ⟨h,hh,e⟩:=List.mem_flatMap.1 hs
     simp at e
     rcases e with rfl | rfl | rfl
     ·obtain ⟨l,g⟩:=(ho h hh).d.1; exact g.lt hz
     ·obtain ⟨l,g⟩:=(ho h hh).f.1; exact g.lt hz
     ·obtain ⟨l,g⟩:=(ho h hh).g.1; exact g.lt hz
    ·obtain ⟨e,he,rfl⟩:=List.mem_map.1 hs
     exact k5 e he z hz
   ·obtain ⟨e,he,rfl⟩:=List.mem_map.1 hs
    exact hlow e he z hz
  ·by_cases h5:i=5
   ·subst h5; rw [p4,pl2]; omega
   ·by_cases h8:i=8
    ·subst h8; rw [p3,List.length_map]; omega
    ·by_cases h9:i=9
     ·subst h9; rw [p2,List.length_map]; omega
     ·by_cases h10:i=10
      ·subst h10; rw [p1,List.length_map]; omega
      ·rw [p5 i h5 h8 h9 h10]; simp
  ·rintro v w3 ⟨rfl,u0⟩
   refine ⟨_,rfl,rfl,(k6.no u0).mono λz _ ⟨s,hs,e⟩=>⟨s,k3.mem_iff.1 hs,e⟩⟩
end
def jEE (l:Slc) (w:World) (R:RW):Prop:=
 aH prog (Instr.makeSlice 37 (.int .i64 0) (.int .i64 (zW ((l.len:Int)+12)))) w λv w1=>∃ x:Slc,v=(zS x)/\aH prog (Builtin.append_ #[37,37] 37 #[zS x,zS l]) w1 λv1 w2=>∃ x1:Slc,v1=(zS x1)/\∃ (inv:zT) (mu:zU),inv [.sl x1,.i .i64 0] w2/\(∀ out:Slc,∀ i:Int,∀ w3:World,inv [.sl out,.i .i64 i] w3->aE (decide (i<12)) (aD prog 114 [.int .i64 1,.int .i64 i] w3 (aG R) λv2 w4=>∃ xa xb:Int,v2=(.agg #[.int .i64 xa,.int .i64 xb])/\aH prog (Instr.buildSlice 37 1 #[(0,(.agg #[.int .i64 xa,.int .i64 xb]))]) w4 λv3 w5=>∃ x2:Slc,v3=(zS x2)/\aH prog (Builtin.append_ #[37,37] 37 #[zS out,zS x2]) w5 λv4 w6=>∃ x3:Slc,v4=(zS x3)/\(inv [.sl x3,.i .i64 (zW (i+1))] w6/\mu [.sl x3,.i .i64 (zW (i+1))] w6<mu [.sl out,.i .i64 i] w3)) (((0<=(l.len:Int)/\(l.len:Int)<=(out.cap:Nat))/\R (.returned (.slice (aF out 2 0 (((l.len:Int)).toNat) out.cap).a (aF out 2 0 (((l.len:Int)).toNat) out.cap).len (aF out 2 0 (((l.len:Int)).toNat) out.cap).cap)) w3)))
theorem qZA (l:Slc) {w:World} {R:RW} (h9:jEE l w R):Calls prog 57 #[zS l] w R:=
 zC (q0 .z (q0 .z (q0 .z (q0 (q0 .z (.block none (.loop [(3,.sl),(4,(.i .i64))] (q0 (q0 .z (.cond .z .z)) (q0 (.block none .z) .z))))) (q0 .z .z))))) func57 [.sl l] h9
def jFW (out l:Slc) (w:World) (R:RW):Prop:=
 aE ((out.len:Int) != (l.len:Int)) (zF R false w) (((0<=(zW ((l.len:Int)+12))/\(zW ((l.len:Int)+12))<=(out.cap:Nat))/\∃ (inv:zT) (mu:zU),inv [.i .i64 0] w/\(∀ i:Int,∀ w1:World,inv [.i .i64 i] w1->aE (decide (i<((aF out 2 0 (((zW ((l.len:Int)+12))).toNat) out.cap).len:Int))) (∃ sx:zP,sx w1.drew/\aE (decide (i<l.len)) (((0<=i/\i<((aF out 2 0 (((zW ((l.len:Int)+12))).toNat) out.cap).len:Nat))/\aA (aF out 2 0 (((zW ((l.len:Int)+12))).toNat) out.cap).a λa=>(zB i l.len/\aA l.a λa1=>∃ xa xb:Int,(∀ w',sx w'->Rd w' (a.add (i.toNat*2)) [.int .i64 xa,.int .i64 xb])/\∃ xa1 xb1:Int,(∀ w',sx w'->Rd w' (a1.add (i.toNat*2)) [.int .i64 xa1,.int .i64 xb1])/\bB prog (do eqGuard .eql 52 (.tmp 31) (.tmp 35) (.agg #[.int .i64 xa,.int .i64 xb]) (.agg #[.int .i64 xa1,.int .i64 xb1]); binOp .eql 52 (.agg #[.int .i64 xa,.int .i64 xb]) (.agg #[.int .i64 xa1,.int .i64 xb1])) λv=>∃ x:Bool,v=(.bool x)/\aE (!x) ((((sx w1.drew/\zF R false w1.drew))/\True)) (aE (decide (i>=(l.len:Int))) (((0<=i/\i<((aF out 2 0 (((zW ((l.len:Int)+12))).toNat) out.cap).len:Nat))/\aA (aF out 2 0 (((zW ((l.len:Int)+12))).toNat) out.cap).a λa2=>∃ xa2 xb2:Int,(∀ w',sx w'->Rd w' (a2.add (i.toNat*2)) [.int .i64 xa2,.int .i64 xb2])/\((aD prog 114 [.int .i64 1,.int .i64 (zW (i - (l.len:Int)))] w1.drew (aG R) λv1 w2=>∃ xa3 xb3:Int,v1=(.agg #[.int .i64 xa3,.int .i64 xb3])/\(sx w2/\bB prog (do eqGuard .eql 52 (.tmp 48) (.tmp 53) (.agg #[.int .i64 xa2,.int .i64 xb2]) (.agg #[.int .i64 xa3,.int .i64 xb3]); binOp .eql 52 (.agg #[.int .i64 xa2,.int .i64 xb2]) (.agg #[.int .i64 xa3,.int .i64 xb3])) λv2=>∃ x1:Bool,v2=(.bool x1)/\aE (!x1) (zF R false w2) ((inv [.i .i64 (zW (i+1))] w2/\mu [.i .i64 (zW (i+1))] w2<mu [.i .i64 i] w1))))/\True))) ((((sx w1.drew/\(inv [.i .i64 (zW (i+1))] w1.drew/\mu [.i .i64 (zW (i+1))] w1.drew<mu [.i .i64 i] w1)))/\True)))))) (aE (decide (i>=(l.len:Int))) (((0<=i/\i<((aF out 2 0 (((zW ((l.len:Int)+12))).toNat) out.cap).len:Nat))/\aA (aF out 2 0 (((zW ((l.len:Int)+12))).toNat) out.cap).a λa3=>∃ xa4 xb4:Int,(∀ w',sx w'->Rd w' (a3.add (i.toNat*2)) [.int .i64 xa4,.int .i64 xb4])/\((aD prog 114 [.int .i64 1,.int .i64 (zW (i - (l.len:Int)))] w1.drew (aG R) λv3 w3=>∃ xa5 xb5:Int,v3=(.agg #[.int .i64 xa5,.int .i64 xb5])/\(sx w3/\bB prog (do eqGuard .eql 52 (.tmp 48) (.tmp 53) (.agg #[.int .i64 xa4,.int .i64 xb4]) (.agg #[.int .i64 xa5,.int .i64 xb5]); binOp .eql 52 (.agg #[.int .i64 xa4,.int .i64 xb4]) (.agg #[.int .i64 xa5,.int .i64 xb5])) λv4=>∃ x2:Bool,v4=(.bool x2)/\aE (!x2) (zF R false w3) ((inv [.i .i64 (zW (i+1))] w3/\mu [.i .i64 (zW (i+1))] w3<mu [.i .i64 i] w1))))/\True))) ((((sx w1.drew/\(inv [.i .i64 (zW (i+1))] w1.drew/\mu [.i .i64 (zW (i+1))] w1.drew<mu [.i .i64 i] w1)))/\True)))) (zF R true w1))))
theorem qZX (out l:Slc) {w:World} {R:RW} (h9:jFW out l w R):Calls prog 70 #[zS out,zS l] w R:=
 zC (q0 .z (q0 (q0 .z (.cond (q0 .z .z) .z)) (q0 .z (q0 (q0 .z (.block none (.loop [(6,(.i .i64))] (q0 (q0 .z (.cond .z .z)) (q0 (.block none (q0 (.draw 1 (.take 0 (.take 1 (.take 2 (.take 3 (.take 4 (.take 5 (.take 6 (.take 7 (.take 9 (.take 10 (.take 11 (.take 8 (.take 12 (.take 13 (.take 14 (.take 15 (.take 16 (.take 17 (.take 18 (.take 19 (.take 20 (.take 21 (.take 22 (.take 23 (.take 24 (.take 26 (.take 27 (.take 28 (.take 29 (.take 25 (.all [(30,(.take 31 (.take 32 (.take 33 (.take 34 .done)))))])))))))))))))))))))))))))))))))) (.cond (q0 .z .z) .z))) .z))))) (q0 .z .z))))) func70 [.sl out,.sl l] h9
def jDG (xa:zY) (xb xc:Int) (xd:Slc) (xe:Bool) (xf xg:Slc) (w:World) (R:RW):Prop:=
 aH prog (Instr.box 40 (zR xa xb xc xd xe xf xg)) w λv w1=>∃ x:zO,v=(.pointer x)/\aH prog (Instr.alloc 40 true (.tuple #[])) w1 λv1 w2=>∃ x1:zO,v1=(.pointer x1)/\aA x λa=>∃ x2:Slc,Rd w2 (a.add 3) [zS x2]/\aD prog 57 [zS x2] w2 (aG R) λv2 w3=>∃ x3:Slc,v2=(zS x3)/\aA x λa1=>aJ prog (storeVar 37 (a1.add 3) (zS x3)) w3 λw4=>aA x λa2=>∃ x4:Slc,Rd w4 (a2.add 5) [zS x4]/\aD prog 58 [zS x4] w4 (aG R) λv3 w5=>∃ x5:Slc,v3=(zS x5)/\aA x λa3=>aJ prog (storeVar 38 (a3.add 5) (zS x5)) w5 λw6=>aA x λa4=>∃ x6:Slc,Rd w6 (a4.add 6) [zS x6]/\aD prog 58 [zS x6] w6 (aG R) λv4 w7=>∃ x7:Slc,v4=(zS x7)/\aA x λa5=>aJ prog (storeVar 38 (a5.add 6) (zS x7)) w7 λw8=>aA x λa6=>∃ xa1:zY,∃ xb1 xc1:Int,∃ xd1:Slc,∃ xe1:Bool,∃ xf1 xg1:Slc,Rd w8 a6 (yR xa1 xb1 xc1 xd1 xe1 xf1 xg1)/\aA x1 λa7=>aJ prog (storeVar 40 a7 (zR xa1 xb1 xc1 xd1 xe1 xf1 xg1)) w8 λw9=>aA x1 λa8=>∃ xa2:zY,∃ xb2 xc2:Int,∃ xd2:Slc,∃ xe2:Bool,∃ xf2 xg2:Slc,Rd w9 a8 (yR xa2 xb2 xc2 xd2 xe2 xf2 xg2)/\R (.returned (zR xa2 xb2 xc2 xd2 xe2 xf2 xg2)) w9
theorem jBW (xa:zY) (xb xc:Int) (xd:Slc) (xe:Bool) (xf xg:Slc) {w:World} {R:RW} (h9:jDG xa xb xc xd xe xf xg w R):Calls prog 28 #[zR xa xb xc xd xe xf xg] w R:=
 zC (q0 .z (q0 .z (q0 .z (q0 .z (q0 .z .z))))) func28 [.agg [.s xa,.i .i64 xb,.i .i64 xc,.sl xd,.b xe,.sl xf,.sl xg]] h9
def jEZ (xa:zY) (xb xc:Int) (xd:Slc) (xe:Bool) (xf xg:Slc) (ya:zY) (yb yc:Int) (yd:Slc) (ye:Bool) (yf yg:Slc) (w:World) (R:RW):Prop:=
 aH prog (Instr.box 40 (zR xa xb xc xd xe xf xg)) w λv w1=>∃ x:zO,v=(.pointer x)/\aH prog (Instr.box 40 (zR ya yb yc yd ye yf yg)) w1 λv1 w2=>∃ y:zO,v1=(.pointer y)/\aA x λa=>∃ xa1:zY,∃ xb1 xc1:Int,∃ xd1:Slc,∃ xe1:Bool,∃ xf1 xg1:Slc,Rd w2 a (yR xa1 xb1 xc1 xd1 xe1 xf1 xg1)/\aA y λa1=>∃ xa2:zY,∃ xb2 xc2:Int,∃ xd2:Slc,∃ xe2:Bool,∃ xf2 xg2:Slc,Rd w2 a1 (yR xa2 xb2 xc2 xd2 xe2 xf2 xg2)/\aD prog 22 [zR xa1 xb1 xc1 xd1 xe1 xf1 xg1,zR xa2 xb2 xc2 xd2 xe2 xf2 xg2] w2 (aG R) λv2 w3=>∃ x1:Bool,v2=(.bool x1)/\aE x1 (aA x λa2=>∃ x2:Slc,Rd w3 (a2.add 3) [zS x2]/\aA y λa3=>∃ x3:Slc,Rd w3 (a3.add 3) [zS x3]/\aD prog 70 [zS x2,zS x3] w3 (aG R) λv3 w4=>∃ x4:Bool,v3=(.bool x4)/\aE x4 (aA x λa4=>∃ x5:Slc,Rd w4 (a4.add 5) [zS x5]/\aA y λa5=>∃ x6:Slc,Rd w4 (a5.add 5) [zS x6]/\aD prog 71 [zS x5,zS x6] w4 (aG R) λv4 w5=>∃ x7:Bool,v4=(.bool x7)/\aE x7 (aA x λa6=>∃ x8:Slc,Rd w5 (a6.add 6) [zS x8]/\aA y λa7=>∃ x9:Slc,Rd w5 (a7.add 6) [zS x9]/\aD prog 71 [zS x8,zS x9] w5 (aG R) λv5 w6=>∃ x10:Bool,v5=(.bool x10)/\R (.returned (.bool x10)) w6) (zF R false w5)) (zF R false w4)) (zF R false w3)
theorem qYT (xa:zY) (xb xc:Int) (xd:Slc) (xe:Bool) (xf xg:Slc) (ya:zY) (yb yc:Int) (yd:Slc) (ye:Bool) (yf yg:Slc) {w:World} {R:RW} (h9:jEZ xa xb xc xd xe xf xg ya yb yc yd ye yf yg w R):Calls prog 37 #[zR xa xb xc xd xe xf xg,zR ya yb yc yd ye yf yg] w R:=
 zC (q0 .z (q0 .z .z)) func37 [.agg [.s xa,.i .i64 xb,.i .i64 xc,.sl xd,.b xe,.sl xf,.sl xg],.agg [.s ya,.i .i64 yb,.i .i64 yc,.sl yd,.b ye,.sl yf,.sl yg]] h9
def sh9 (l:Slc) (w:World) (R:RW):Prop:=
 aH prog (Instr.makeSlice 22 (.int .i64 0) (.int .i64 (zW ((l.len:Int)+12)))) w λv w1=>∃ x:Slc,v=(zS x)/\∃ (inv:zT) (mu:zU),inv [.sl x,.i .i64 0] w1/\(∀ out:Slc,∀ i:Int,∀ w2:World,inv [.sl out,.i .i64 i] w2->aE (decide (i<l.len)) ((zB i l.len/\aA l.a λa=>∃ xa:zY,∃ xb xc:Int,∃ xd:Slc,∃ xe:Bool,∃ xf xg:Slc,Rd w2 (a.add (i.toNat*7)) (yR xa xb xc xd xe xf xg)/\aD prog 28 [zR xa xb xc xd xe xf xg] w2 (aG R) λv1 w3=>∃ xa1:zY,∃ xb1 xc1:Int,∃ xd1:Slc,∃ xe1:Bool,∃ xf1 xg1:Slc,v1=(zR xa1 xb1 xc1 xd1 xe1 xf1 xg1)/\aH prog (Instr.alloc 40 true (.tuple #[])) w3 λv2 w4=>∃ x1:zO,v2=(.pointer x1)/\aA x1 λa1=>aJ prog (storeVar 40 a1 (zR xa1 xb1 xc1 xd1 xe1 xf1 xg1)) w4 λw5=>aA x1 λa2=>∃ xa2:zY,∃ xb2 xc2:Int,∃ xd2:Slc,∃ xe2:Bool,∃ xf2 xg2:Slc,Rd w5 a2 (yR xa2 xb2 xc2 xd2 xe2 xf2 xg2)/\aH prog (Instr.buildSlice 22 1 #[(0,(zR xa2 xb2 xc2 xd2 xe2 xf2 xg2))]) w5 λv3 w6=>∃ x2:Slc,v3=(zS x2)/\aH prog (Builtin.append_ #[22,22] 22 #[zS out,zS x2]) w6 λv4 w7=>∃ x3:Slc,v4=(zS x3)/\(inv [.sl x3,.i .i64 (zW (i+1))] w7/\mu [.sl x3,.i .i64 (zW (i+1))] w7<mu [.sl out,.i .i64 i] w2))) (∃ (inv1:zT) (mu1:zU),inv1 [.sl out,.i .i64 0] w2/\(∀ out1:Slc,∀ i1:Int,∀ w8:World,inv1 [.sl out1,.i .i64 i1] w8->aE (decide (i1<12)) (aD prog 29 [.int .i64 1,.int .i64 i1] w8 (aG R) λv5 w9=>∃ xa3:zY,∃ xb3 xc3:Int,∃ xd3:Slc,∃ xe3:Bool,∃ xf3 xg3:Slc,v5=(zR xa3 xb3 xc3 xd3 xe3 xf3 xg3)/\aH prog (Instr.buildSlice 22 1 #[(0,(zR xa3 xb3 xc3 xd3 xe3 xf3 xg3))]) w9 λv6 w10=>∃ x4:Slc,v6=(zS x4)/\aH prog (Builtin.append_ #[22,22] 22 #[zS out1,zS x4]) w10 λv7 w11=>∃ x5:Slc,v7=(zS x5)/\(inv1 [.sl x5,.i .i64 (zW (i1+1))] w11/\mu1 [.sl x5,.i .i64 (zW (i1+1))] w11<mu1 [.sl out1,.i .i64 i1] w8)) (((0<=(l.len:Int)/\(l.len:Int)<=(out1.cap:Nat))/\R (.returned (.slice (aF out1 7 0 (((l.len:Int)).toNat) out1.cap).a (aF out1 7 0 (((l.len:Int)).toNat) out1.cap).len (aF out1 7 0 (((l.len:Int)).toNat) out1.cap).cap)) w8)))))
theorem jEW (l:Slc) {w:World} {R:RW} (h9:sh9 l w R):Calls prog 9 #[zS l] w R:=
 zC (q0 .z (q0 .z (q0 (q0 .z (.block none (.loop [(3,.sl),(4,(.i .i64))] (q0 (q0 .z (.cond .z .z)) (q0 (.block none (q0 .z .z)) .z))))) (q0 (q0 .z (.block none (.loop [(3,.sl),(6,(.i .i64))] (q0 (q0 .z (.cond .z .z)) (q0 (.block none .z) .z))))) (q0 .z .z))))) func9 [.sl l] h9
def jFO (out l:Slc) (w:World) (R:RW):Prop:=
 aE ((out.len:Int) != (l.len:Int)) (zF R false w) (((0<=(zW ((l.len:Int)+12))/\(zW ((l.len:Int)+12))<=(out.cap:Nat))/\∃ (inv:zT) (mu:zU),inv [.i .i64 0] w/\(∀ i:Int,∀ w1:World,inv [.i .i64 i] w1->aE (decide (i<((aF out 7 0 (((zW ((l.len:Int)+12))).toNat) out.cap).len:Int))) (∃ sx:zP,sx w1.drew/\aE (decide (i<l.len)) (((0<=i/\i<((aF out 7 0 (((zW ((l.len:Int)+12))).toNat) out.cap).len:Nat))/\aA (aF out 7 0 (((zW ((l.len:Int)+12))).toNat) out.cap).a λa=>(zB i l.len/\aA l.a λa1=>∃ xa:zY,∃ xb xc:Int,∃ xd:Slc,∃ xe:Bool,∃ xf xg:Slc,(∀ w',sx w'->Rd w' (a.add (i.toNat*7)) (yR xa xb xc xd xe xf xg))/\∃ xa1:zY,∃ xb1 xc1:Int,∃ xd1:Slc,∃ xe1:Bool,∃ xf1 xg1:Slc,(∀ w',sx w'->Rd w' (a1.add (i.toNat*7)) (yR xa1 xb1 xc1 xd1 xe1 xf1 xg1))/\((aD prog 37 [zR xa xb xc xd xe xf xg,zR xa1 xb1 xc1 xd1 xe1 xf1 xg1] w1.drew (aG R) λv w2=>∃ x:Bool,v=(.bool x)/\(sx w2/\aE (!x) ((((sx w2/\(((sx w2/\zF R false w2))/\True)))/\True)) (aE (decide (i>=(l.len:Int))) (((0<=i/\i<((aF out 7 0 (((zW ((l.len:Int)+12))).toNat) out.cap).len:Nat))/\aA (aF out 7 0 (((zW ((l.len:Int)+12))).toNat) out.cap).a λa2=>∃ xa2:zY,∃ xb2 xc2:Int,∃ xd2:Slc,∃ xe2:Bool,∃ xf2 xg2:Slc,(∀ w',sx w'->Rd w' (a2.add (i.toNat*7)) (yR xa2 xb2 xc2 xd2 xe2 xf2 xg2))/\((aD prog 29 [.int .i64 1,.int .i64 (zW (i - (l.len:Int)))] w2 (aG R) λv1 w3=>∃ xa3:zY,∃ xb3 xc3:Int,∃ xd3:Slc,∃ xe3:Bool,∃ xf3 xg3:Slc,v1=(zR xa3 xb3 xc3 xd3 xe3 xf3 xg3)/\(sx w3/\((aD prog 22 [zR xa2 xb2 xc2 xd2 xe2 xf2 xg2,zR xa3 xb3 xc3 xd3 xe3 xf3 xg3] w3 (aG R) λv2 w4=>∃ x1:Bool,v2=(.bool x1)/\(sx w4/\aE (!x1) (zF R false w4) ((inv [.i .i64 (zW (i+1))] w4/\mu [.i .i64 (zW (i+1))] w4<mu [.i .i64 i] w1))))/\True)))/\True))) ((((sx w2/\(((sx w2/\(inv [.i .i64 (zW (i+1))] w2/\mu [.i .i64 (zW (i+1))] w2<mu [.i .i64 i] w1)))/\True)))/\True)))))/\True)))) ((((sx w1.drew/\aE (decide (i>=(l.len:Int))) (((0<=i/\i<((aF out 7 0 (((zW ((l.len:Int)+12))).toNat) out.cap).len:Nat))/\aA (aF out 7 0 (((zW ((l.len:Int)+12))).toNat) out.cap).a λa3=>∃ xa4:zY,∃ xb4 xc4:Int,∃ xd4:Slc,∃ xe4:Bool,∃ xf4 xg4:Slc,(∀ w',sx w'->Rd w' (a3.add (i.toNat*7)) (yR xa4 xb4 xc4 xd4 xe4 xf4 xg4))/\((aD prog 29 [.int .i64 1,.int .i64 (zW (i - (l.len:Int)))] w1.drew (aG R) λv3 w5=>∃ xa5:zY,∃ xb5 xc5:Int,∃ xd5:Slc,∃ xe5:Bool,∃ xf5 xg5:Slc,v3=(zR xa5 xb5 xc5 xd5 xe5 xf5 xg5)/\(sx w5/\((aD prog 22 [zR xa4 xb4 xc4 xd4 xe4 xf4 xg4,zR xa5 xb5 xc5 xd5 xe5 xf5 xg5] w5 (aG R) λv4 w6=>∃ x2:Bool,v4=(.bool x2)/\(sx w6/\aE (!x2) (zF R false w6) ((inv [.i .i64 (zW (i+1))] w6/\mu [.i .i64 (zW (i+1))] w6<mu [.i .i64 i] w1))))/\True)))/\True))) ((((sx w1.drew/\(((sx w1.drew/\(inv [.i .i64 (zW (i+1))] w1.drew/\mu [.i .i64 (zW (i+1))] w1.drew<mu [.i .i64 i] w1)))/\True)))/\True))))/\True))) (zF R true w1))))
theorem qZY (out l:Slc) {w:World} {R:RW} (h9:jFO out l w R):Calls prog 16 #[zS out,zS l] w R:=
 zC (q0 .z (q0 (q0 .z (.cond (q0 .z .z) .z)) (q0 .z (q0 (q0 .z (.block none (.loop [(6,(.i .i64))] (q0 (q0 .z (.cond .z .z)) (q0 (.block none (q0 (.draw 1 (.take 0 (.take 1 (.take 2 (.take 3 (.take 4 (.take 5 (.take 6 (.take 7 (.take 9 (.take 10 (.take 11 (.take 8 (.take 12 (.all [(13,(.take 14 (.take 15 (.take 16 (.take 17 (.take 18 (.take 19 (.take 20 (.take 21 (.take 22 (.take 23 (.take 24 (.take 26 (.take 27 (.take 28 (.take 29 (.take 25 (.all [(30,(.all [(31,(.take 32 (.take 33 (.take 34 .done))))]))]))))))))))))))))))]))))))))))))))) (.cond (q0 .z .z) .z))) .z))))) (q0 .z .z))))) func16 [.sl out,.sl l] h9
def fY {α:Type} (f:α->List Value) (K:Nat) (m:Int->Int->α) (w:World) (x:Slc) (l:List α):Prop:=x.len=l.length/\Sh.Own w ⟨x.a,x.len+12,x.cap⟩ K (aR f (l++mkg m 1 12))
theorem jGA {α:Type} (m:Int->Int->α) (n:Nat):mkg m 1 (n+1)=mkg m 1 n++[m 1 n]:=rfl
theorem qDI {α:Type} (m:Int->Int->α) {n i:Nat} (h:i<n):(mkg m 1 n)[i]? = some (m 1 i):=pH 1 n i h
theorem uY {s:Slc} {k n:Nat} (h1:s.len<=s.cap) (h2:n<=s.cap):aF s k 0 n s.cap=⟨s.a,n,s.cap⟩:=by
 unfold aF
 split
 ·next hc=>simp
 ·next hc=>
  congr 1
  cases s.a with
  | none=>rfl
  | some a=>simp [Addr.add]
section
variable {α:Type} {f:α->List Value} {K:Nat} {m:Int->Int->α} {w w':World} {x:Slc} {l:List α}
theorem fY.own (hk : ∀ x,(f x).length=K) (h:fY f K m w x l):Sh.Own w x K (aR f l):=by
 have:=h.2.take (n:=x.len) (by simp only []; omega)
 have e:=h.1
 rw [kC hk (by simp; omega),e,List.take_append_of_le_length (Nat.le_refl _),List.take_length] at this
 rw [<-e] at this
 exact this
theorem fY.cap (h:fY f K m w x l):x.len+12<=x.cap:=h.2.2.1
theorem fY.mod {S:Nat->Prop} (h:fY f K m w x l) (hm:Mod S w w') (hs : ∀ b,x.blk=some b->¬ S b):fY f K m w' x l:=⟨h.1,h.2.mod hm hs⟩
theorem fY.no (h:fY f K m w x l) (hm:Mod NoB w w'):fY f K m w' x l:=h.mod hm λ_ _ h=>h
theorem fY.lt (h:fY f K m w x l) {b:Nat} (hb:x.blk=some b):b<w.heap.size:=h.2.lt hb
end
section
variable {w:World}
theorem qAO {s:Slc} {l:List (Int×Int)} (hs:aK w s 2 (dts l)) (hn:l.length<=1000000000) :
 Calls prog 57 #[.slice s.a s.len s.cap] w (Ret λv w'=>∃ x:Slc,v=x.val/\fY fF 2 mD w' x l/\FB w x/\Mod NoB w w'):=by
 refine qZA _ ?_
 unfold jEE
 obtain ⟨id,k5,hd2,k6,p8⟩:=qI
 have hL:=dW hs
 rw [show zW ((s.len:Int)+12)=((s.len+12:Nat):Int) by rw [wrap_i64 (by omega)]; omega]
 refine iP (f:=fF) (z0:=((0,0):Int×Int)) (l:=0) (c:=s.len+12) kU k5 hd2 k6 rfl rfl (by omega) p8 rfl rfl (by omega) (by omega) (by omega) (by omega) λe0 w1 hN1 u1=>⟨⟨_,_,_⟩,rfl,?_⟩
 have hf1:FB w ⟨some ⟨e0,0,none⟩,0,s.len+12⟩:=FB.new (by rw [hN1.at_]; exact Nat.le_refl _)
 refine aS kU k5 hd2 k6 rfl p8 (s:=⟨some ⟨e0,0,none⟩,0,s.len+12⟩) u1 (hs.no hN1.mod) (qS _) (by simp only []; omega) (by simp only []; omega) λs2 w2 k4 hl2 hb2 u2=>⟨s2,rfl,?_⟩
 have hf2:=hf1.step hN1.mod.size hb2
 have hM2:=hf1.mod hN1.mod u2
 have k4:Sh.Own w2 s2 2 (aR fF l):=by
  simp only [List.replicate_zero,List.flatMap_nil,List.nil_append] at k4; exact k4
 refine ⟨λl' w'=>match l' with | [.sl q,.i _ i]=>∃ k:Nat,i=k/\k<=12/\Sh.Own w' q 2 (aR fF (l++mkg mD 1 k))/\FB w q/\Mod NoB w w' | _=>False,λl' _=>match l' with | [.sl q,.i _ i]=>(12 - i).toNat | _=>0,
  ⟨0,rfl,by omega,by simpa [mkg] using k4,hf2,hM2⟩,?_⟩
 rintro q i w3 ⟨k,rfl,hk,hq,p9,t6⟩
 have u3:=bA lQ (by omega) hq.rd
 simp at u3
 refine aC (λhlt=>?_) λhge=>?_
 ·have t7:k<12:=by simp at hlt; omega
  refine aB pP ?_
  rintro v w4 ⟨rfl,u0⟩
  have h9:aR fF (l++mkg mD 1 k)++fF (mD 1 k)=aR fF (l++mkg mD 1 (k+1)):=by
   rw [jGA,<-List.append_assoc,bP (l++mkg mD 1 k)]; simp [aR]
  have q8:=t6.tr u0
  refine ⟨(mD 1 k).1,(mD 1 k).2,rfl,jP (f:=fF) (c:=mD 1 k) kU k5 hd2 k6 rfl p8 rfl rfl (by omega) (by omega) (pO _) (hq.no u0) (by omega) (by omega) (λw5 u4 k3 q9=>?_) λb cp w5 u4 hb k3 u6 q9=>?_⟩
  ·rw [h9] at k3
   rw [aI (by omega)]
   exact ⟨⟨k+1,rfl,by omega,k3,λz hz=>p9 z (by rw [<-hz]; exact mG rfl rfl),p9.mod q8 q9⟩,by (try simp only []); omega⟩
  ·rw [h9] at k3
   rw [aI (by omega)]
   exact ⟨⟨k+1,rfl,by omega,k3,FB.new (Nat.le_trans q8.size hb),q8.tr q9⟩,by (try simp only []); omega⟩
 ·have t7:k=12:=by simp at hge; omega
  subst t7
  have u5:=hq.2.1
  refine ⟨⟨by omega,by omega⟩,?_⟩
  rw [Int.toNat_natCast,uY u5 (by omega)]
  refine ⟨_,rfl,⟨by simp only []; omega,?_⟩,p9,t6⟩
  simp only []
  rw [show s.len+12=q.len by omega]
  exact hq
theorem qAB {x s:Slc} {l:List (Int×Int)} (hx:fY fF 2 mD w x l) (hs:aK w s 2 (dts l)) (hn:l.length<=1000000000) :
 Calls prog 70 #[.slice x.a x.len x.cap,.slice s.a s.len s.cap] w (Ret λv w'=>v = .bool true/\Mod NoB w w'):=by
 refine qZX _ _ ?_
 unfold jFW
 have hL:=dW hs
 have hc:=hx.cap
 have hxl:=hx.1
 have k4:x.len=s.len:=by omega
 refine aC (λh=>by simp [k4] at h) λ_=>?_
 rw [show zW ((s.len:Int)+12)=((s.len+12:Nat):Int) by rw [wrap_i64 (by omega)]; omega]
 refine ⟨⟨by omega,by omega⟩,?_⟩
 have e1:aF x 2 0 (((s.len+12:Nat):Int)).toNat x.cap=⟨x.a,s.len+12,x.cap⟩:=by rw [Int.toNat_natCast]; exact uY (by omega) (by omega)
 simp only [e1]
 have hall:aK w ⟨x.a,s.len+12,x.cap⟩ 2 (aR fF (l++mkg mD 1 12)):=by rw [<-k4]; exact hx.2.rd
 have hal:(l++mkg mD 1 12).length=s.len+12:=by simp; omega
 refine ⟨λl' w'=>match l' with | [.i _ i]=>∃ k:Nat,i=k/\k<=s.len+12/\Mod NoB w w' | _=>False,λl' _=>match l' with | [.i _ i]=>(s.len+12 - i).toNat | _=>0,⟨0,rfl,by omega,Mod.refl _ _⟩,?_⟩
 rintro i w1 ⟨k,rfl,hk,k3⟩
 refine aC (λhlt=>?_) λhge=>⟨rfl,k3⟩
 have p8:k<s.len+12:=by simp at hlt; omega
 obtain ⟨xa,ea,hra⟩:=aZ lQ (by omega) hall (i:=k) (by omega)
 have ea':x.a=some xa:=ea
 have h9 : ∀ w',Mod NoB w w'->(∃ k':Nat,zW ((k:Int)+1)=k'/\k'<=s.len+12/\Mod NoB w w')/\(s.len+12 - zW ((k:Int)+1)).toNat<((s.len:Int)+12 - (k:Int)).toNat:=λw' hm=>by
  rw [aI (by omega)]
  exact ⟨⟨k+1,rfl,by omega,hm⟩,by omega⟩
 refine ⟨λw'=>Mod NoB w w',k3.dr,aC (λh=>?_) λh=>?_⟩
 ·have hkl:k<s.len:=by simp at h; omega
  obtain ⟨sa,es,hrs⟩:=fP hs (i:=k) (by omega)
  simp only [ea',es,Int.toNat_natCast]
  have hv:(l++mkg mD 1 12)[k]'(by omega)=l[k]'(by omega):=List.getElem_append_left _
  rw [hv] at hra
  refine ⟨⟨by omega,by omega⟩,⟨by omega,by omega⟩,(l[k]'(by omega)).1,(l[k]'(by omega)).2,λw' h=>hra.mod h λh=>h,(l[k]'(by omega)).1,(l[k]'(by omega)).2,λw' h=>hrs.mod h λh=>h,vM ⟨_,rfl,aC (λe=>by simp at e) λ_=>aC (λe=>by simp at e; omega) λ_=>⟨⟨k3.dr,h9 _ k3.dr⟩,trivial⟩⟩⟩
 ·have hkl:s.len<=k:=by simp at h; omega
  simp only [ea',Int.toNat_natCast]
  have hv:(l++mkg mD 1 12)[k]'(by omega)=mD 1 ((k - s.len:Nat):Int):=by
   rw [List.getElem_append_right (by omega)]
   have:=qDI mD (n:=12) (i:=k - l.length) (by omega)
   rw [List.getElem?_eq_getElem (by simp; omega)] at this
   rw [Option.some.inj this,hL]
  rw [hv] at hra
  refine aC (λ_=>⟨⟨by omega,by omega⟩,(mD 1 ((k - s.len:Nat):Int)).1,(mD 1 ((k - s.len:Nat):Int)).2,λw' h=>hra.mod h λh=>h,?_,trivial⟩) λe=>by simp at e; omega
  rw [show zW ((k:Int) - (s.len:Int))=((k - s.len:Nat):Int) by rw [wrap_i64 (by omega)]; omega]
  refine aB pP ?_
  rintro v w4 ⟨rfl,k6⟩
  have k5:=k3.dr.tr k6
  exact ⟨_,_,rfl,k5,vM ⟨_,rfl,aC (λe=>by simp at e) λ_=>h9 _ k5⟩⟩
end
structure jB (w:World) (h:Hd) (r:Rc):Prop where
 d:fY fF 2 mD w h.d r.ctx
 f:fC w h.f r.val
 g:fC w h.g r.sig
 p:[h.d,h.f,h.g].Pairwise Dis
theorem jB.mod {w w':World} {h:Hd} {r:Rc} {S:Nat->Prop} (a:jB w h r) (hm:Mod S w w') (hS : ∀ z,h.on z->¬ S z):jB w' h r:=
 ⟨a.d.mod hm λz hz=>hS z (.inl hz),a.f.mod hm λz hz=>hS z (.inr (.inl hz)),a.g.mod hm λz hz=>hS z (.inr (.inr hz)),a.p⟩
theorem jB.no {w w':World} {h:Hd} {r:Rc} (a:jB w h r) (hm:Mod NoB w w'):jB w' h r:=a.mod hm λ_ _ h=>h
theorem fC.own {w:World} {x:Slc} {l:zY} (h:fC w x l):OwV 1 w x:=by
 have:=h.2.take (n:=x.len) (by simp only []; omega)
 exact ⟨_,this⟩
theorem jB.own {w:World} {h:Hd} {r:Rc} (a:jB w h r) (hs:r.ctx.length<=1000000000/\r.val.length<=1000000000/\r.sig.length<=1000000000):fN w h:=
 ⟨⟨⟨_,a.d.own lQ⟩,by have:=a.d.1; omega⟩,⟨a.f.own,by have:=a.f.1; omega⟩,⟨a.g.own,by have:=a.g.1; omega⟩⟩
structure iM (B:Nat) (w:World) (x:Slc) (rs:List Rc) (hs:List Hd):Prop where
 n:hs.length=rs.length
 l:fY Hd.cells 7 mR w x hs
 b : ∀ z,x.blk=some z->B<=z
 h : ∀ i (a:i<hs.length) (a':i<rs.length),bH w hs[i] rs[i]/\jB w hs[i] rs[i]/\∀ z,hs[i].on z->B<=z/\x.blk≠some z
 p:(pieces hs).Pairwise Dis
theorem iM.no {B:Nat} {w w':World} {x:Slc} {rs:List Rc} {hs:List Hd} (a:iM B w x rs hs) (hm:Mod NoB w w'):iM B w' x rs hs:=
 ⟨a.n,a.l.no hm,a.b,λi h h'=>⟨(a.h i h h').1.no hm,(a.h i h h').2.1.no hm,(a.h i h h').2.2⟩,a.p⟩
section
variable {w:World}
theorem wI {h:Hd} {r:Rc} (H:bH w h r):Calls prog 28 #[h.val] w (Ret λv w'=>∃ h':Hd,v=h'.val/\bH w' h' r/\jB w' h' r/\uW w h'/\Mod NoB w w'):=by
 refine jBW h.a h.b h.c h.d h.e h.f h.g ?_
 unfold jDG
 obtain ⟨ir,hr1,hr2,y9,z1⟩:=iF
 obtain ⟨z6,z7,z8,j2⟩:=H.sm
 refine aQ (v:=h.val) (l:=h.cells) rfl λp w1 hN hb=>⟨_,rfl,?_⟩
 refine aN (l:=Hd.cells ⟨[],0,0,⟨none,0,0⟩,false,⟨none,0,0⟩,⟨none,0,0⟩⟩) hr1 hr2 rfl λq w2 t7 hb2=>⟨_,rfl,?_⟩
 have hp2:=hb.no t7.mod
 have e1:=hN.at_; have e2:=t7.at_; have hpl:=hb.lt
 have hM2:=hN.mod.tr t7.mod
 refine ⟨h.d,bT (i:=3) hp2 rfl,?_⟩
 refine aB (qAO (H.ctx.no hM2) (by omega)) ?_
 rintro v w3 ⟨x3,rfl,v1,u4,u0⟩
 refine ⟨x3,rfl,?_⟩
 refine dH (i:=3) (by kernel_rfl) (by kernel_rfl) rfl (hp2.no u0) (by rw [Hd.len]; omega) λw4 u1 h9=>?_
 have h9:Blk w4 p (Hd.cells ⟨h.a,h.b,h.c,x3,h.e,h.f,h.g⟩) _:=h9
 have v6:=hM2.tr u0
 have u5:Mod NoB w w4:=v6.fresh u1.mod λz e=>by omega
 have hx3p : ∀ z,x3.blk=some z->¬ z=p:=λz hz e=>by have:=u4 z hz; have:=t7.size; omega
 refine ⟨h.f,bT (i:=5) h9 rfl,?_⟩
 refine aB (pS (H.val.no u5) (by omega)) ?_
 rintro v w5 ⟨x5,rfl,v7,u2,k4⟩
 refine ⟨x5,rfl,?_⟩
 refine dH (i:=5) (by kernel_rfl) (by kernel_rfl) rfl (h9.no k4) (by rw [Hd.len]; omega) λw6 k6 p8=>?_
 have p8:Blk w6 p (Hd.cells ⟨h.a,h.b,h.c,x3,h.e,x5,h.g⟩) _:=p8
 have v8:=u5.tr k4
 have u6:Mod NoB w w6:=v8.fresh k6.mod λz e=>by omega
 have s3:=v6.size; have s4:=u5.size; have s5:=v8.size; have s6:=u6.size
 have hx5p : ∀ z,x5.blk=some z->¬ z=p:=λz hz e=>by have:=u2 z hz; have:=h9.lt; omega
 refine ⟨h.g,bT (i:=6) p8 rfl,?_⟩
 refine aB (pS (H.sig.no u6) (by omega)) ?_
 rintro v w7 ⟨x7,rfl,y0,p9,q8⟩
 refine ⟨x7,rfl,?_⟩
 refine dH (i:=6) (by kernel_rfl) (by kernel_rfl) rfl (p8.no q8) (by rw [Hd.len]; omega) λw8 q9 u7=>?_
 have u7:Blk w8 p (Hd.cells ⟨h.a,h.b,h.c,x3,h.e,x5,x7⟩) _:=u7
 have y1:=u6.tr q8
 have y2:Mod NoB w w8:=y1.fresh q9.mod λz e=>by omega
 have hx7p : ∀ z,x7.blk=some z->¬ z=p:=λz hz e=>by have:=p9 z hz; have:=p8.lt; omega
 have hq8 : ∃ l,Blk w8 q l 40/\l.length=7:=⟨_,((((((hb2.no u0).mod u1.mod (by omega)).no k4).mod k6.mod (by omega)).no q8).mod q9.mod (by omega)),rfl⟩
 obtain ⟨lq,hq8,y5⟩:=hq8
 let h':Hd:=⟨h.a,h.b,h.c,x3,h.e,x5,x7⟩
 refine ⟨h'.a,h'.b,h'.c,h'.d,h'.e,h'.f,h'.g,rdH u7,?_⟩
 refine cB (h:=h') (by kernel_rfl) (by kernel_rfl) hq8 y5 λw9 u3 y7=>?_
 have y8:Mod NoB w w9:=y2.fresh u3.mod λz e=>by omega
 have u9 : ∀ z,z=q->z<w2.heap.size:=λz e=>by have:=hb2.lt; omega
 have t3:=u0.size; have t4:=u1.mod.size; have t5:=k4.size; have t6:=k6.mod.size
 have k3:fY fF 2 mD w9 x3 r.ctx:=(((((v1.mod u1.mod λz hz e=>hx3p z hz e).no k4).mod k6.mod λz hz e=>hx3p z hz e).no q8).mod q9.mod λz hz e=>hx3p z hz e).mod u3.mod λz hz e=>by have:=u4 z hz; have:=u9 z e; omega
 have k5:fC w9 x5 r.val:=(((v7.mod k6.mod λz hz e=>hx5p z hz e).no q8).mod q9.mod λz hz e=>hx5p z hz e).mod u3.mod λz hz e=>by have:=u2 z hz; have:=u9 z e; omega
 have k7:fC w9 x7 r.sig:=(y0.mod q9.mod λz hz e=>hx7p z hz e).mod u3.mod λz hz e=>by have:=p9 z hz; have:=u9 z e; omega
 have l3 : ∀ z,x3.blk=some z->z<w4.heap.size:=λz hz=>by have:=v1.lt hz; omega
 have l5 : ∀ z,x5.blk=some z->z<w6.heap.size:=λz hz=>by have:=v7.lt hz; omega
 refine ⟨h'.a,h'.b,h'.c,h'.d,h'.e,h'.f,h'.g,rdH y7,h',rfl,⟨H.key,H.cl,H.sq,H.gone,(k3.own lQ).rd,k5.rd,k7.rd,H.sm,λz hz=>?_⟩,⟨k3,k5,k7,?_⟩,λz hz=>?_,y8⟩
 ·rcases hz with hz | hz | hz
  ·exact k3.lt hz
  ·exact k5.lt hz
  ·exact k7.lt hz
 ·have a1:Dis x3 x5:=eD l3 λz hz=>u2 z hz
  have a2:Dis x3 x7:=eD l3 λz hz=>by have:=p9 z hz; omega
  have a3:Dis x5 x7:=eD l5 λz hz=>p9 z hz
  simp [h',a1,a2,a3]
 ·have s2:=hM2.size
  rcases hz with hz | hz | hz
  ·have:=u4 z hz; omega
  ·have:=u2 z hz; omega
  ·have:=p9 z hz; omega
theorem vS {a b:Hd} {r:Rc} (ha:bH w a r) (hl:jB w a r) (hb:bH w b r):Calls prog 37 #[a.val,b.val] w (Ret λv w'=>v = .bool true/\Mod NoB w w'):=by
 refine qYT a.a a.b a.c a.d a.e a.f a.g b.a b.b b.c b.d b.e b.f b.g ?_
 unfold jEZ
 obtain ⟨t6,t7,u0,u1⟩:=ha.sm
 refine aQ (l:=a.cells) rfl λp w1 hN1 hb1=>⟨_,rfl,?_⟩
 refine aQ (l:=b.cells) rfl λq w2 q8 hb2=>⟨_,rfl,?_⟩
 have k3:Mod NoB w w2:=hN1.mod.tr q8.mod
 have p2:=hb1.no q8.mod
 refine ⟨a.a,a.b,a.c,a.d,a.e,a.f,a.g,rdH p2,b.a,b.b,b.c,b.d,b.e,b.f,b.g,rdH hb2,?_⟩
 refine aB (mF (a:=a) (b:=b) (ha.no k3) (hb.no k3)) ?_
 rintro v w3 ⟨rfl,h9⟩
 have k4:=k3.tr h9
 refine ⟨_,rfl,aC (λ_=>?_) λe=>by simp at e⟩
 refine ⟨a.d,bT (p2.no h9) rfl,b.d,bT (hb2.no h9) rfl,?_⟩
 refine aB (qAB (hl.no k4).d (hb.no k4).ctx (by omega)) ?_
 rintro v w4 ⟨rfl,k5⟩
 have k6:=k4.tr k5
 have p4:=(p2.no h9).no k5
 have b4:=(hb2.no h9).no k5
 refine ⟨_,rfl,aC (λ_=>?_) λe=>by simp at e⟩
 refine ⟨a.f,bT p4 rfl,b.f,bT b4 rfl,?_⟩
 refine aB (qA (hl.no k6).f (hb.no k6).val (by omega)) ?_
 rintro v w5 ⟨rfl,p8⟩
 have p9:=k6.tr p8
 refine ⟨_,rfl,aC (λ_=>?_) λe=>by simp at e⟩
 refine ⟨a.g,bT (p4.no p8) rfl,b.g,bT (b4.no p8) rfl,?_⟩
 refine aB (qA (hl.no p9).g (hb.no p9).sig (by omega)) ?_
 rintro v w6 ⟨rfl,q9⟩
 exact ⟨_,rfl,rfl,p9.tr q9⟩
theorem tQ {B:Nat} {x s:Slc} {rs:List Rc} {hx:List Hd} (H:iM B w x rs hx) (hs:fO w s rs) (hn:rs.length<=1000000) :
 Calls prog 16 #[.slice x.a x.len x.cap,.slice s.a s.len s.cap] w (Ret λv w'=>v = .bool true/\Mod NoB w w'):=by
 refine qZY _ _ ?_
 unfold jFO
 have hL:=hs.len
 obtain ⟨hb,q1,q2,q3⟩:=hs
 have hc:=H.l.cap
 have hxl:=H.l.1
 have hnn:=H.n
 have k5:x.len=s.len:=by omega
 refine aC (λh=>by simp [k5] at h) λ_=>?_
 rw [show zW ((s.len:Int)+12)=((s.len+12:Nat):Int) by rw [wrap_i64 (by omega)]; omega]
 refine ⟨⟨by omega,by omega⟩,?_⟩
 have e1:aF x 7 0 (((s.len+12:Nat):Int)).toNat x.cap=⟨x.a,s.len+12,x.cap⟩:=by rw [Int.toNat_natCast]; exact uY (by omega) (by omega)
 simp only [e1]
 have hall:aK w ⟨x.a,s.len+12,x.cap⟩ 7 (aR Hd.cells (hx++mkg mR 1 12)):=by rw [<-k5]; exact H.l.2.rd
 have hal:(hx++mkg mR 1 12).length=s.len+12:=by simp; omega
 refine ⟨λl' w'=>match l' with | [.i _ i]=>∃ k:Nat,i=k/\k<=s.len+12/\Mod NoB w w' | _=>False,λl' _=>match l' with | [.i _ i]=>(s.len+12 - i).toNat | _=>0,⟨0,rfl,by omega,Mod.refl _ _⟩,?_⟩
 rintro i w1 ⟨k,rfl,hk,h9⟩
 refine aC (λhlt=>?_) λhge=>⟨rfl,h9⟩
 have p9:k<s.len+12:=by simp at hlt; omega
 obtain ⟨xa,ea,hra⟩:=aZ Hd.len (by omega) hall (i:=k) (by omega)
 have ea':x.a=some xa:=ea
 have k3 : ∀ w',Mod NoB w w'->(∃ k':Nat,zW ((k:Int)+1)=k'/\k'<=s.len+12/\Mod NoB w w')/\(s.len+12 - zW ((k:Int)+1)).toNat<((s.len:Int)+12 - (k:Int)).toNat:=λw' hm=>by
  rw [aI (by omega)]
  exact ⟨⟨k+1,rfl,by omega,hm⟩,by omega⟩
 refine ⟨λw'=>Mod NoB w w',h9.dr,aC (λh=>?_) λh=>?_⟩
 ·have hkl:k<s.len:=by simp at h; omega
  obtain ⟨sa,es,hrs⟩:=aZ Hd.len (by omega) q1 (i:=k) (by omega)
  simp only [ea',es,Int.toNat_natCast]
  have hv:(hx++mkg mR 1 12)[k]'(by omega)=hx[k]'(by omega):=List.getElem_append_left _
  rw [hv] at hra
  obtain ⟨g1,g2,g3⟩:=H.h k (by omega) (by omega)
  have g4:=q3 k (by omega) (by omega)
  let a:=hx[k]'(by omega)
  let b:=hb[k]'(by omega)
  refine ⟨⟨by omega,by omega⟩,⟨by omega,by omega⟩,a.a,a.b,a.c,a.d,a.e,a.f,a.g,λw' h=>hra.mod h λh=>h,b.a,b.b,b.c,b.d,b.e,b.f,b.g,λw' h=>hrs.mod h λh=>h,?_,trivial⟩
  refine aB (vS (a:=a) (b:=b) (g1.no h9.dr) (g2.no h9.dr) (g4.no h9.dr)) ?_
  rintro v w2 ⟨rfl,k4⟩
  have hM2:=h9.dr.tr k4
  exact ⟨true,rfl,hM2,aC (λe=>by cases e) λ_=>aC (λe=>by simp at e; omega) λ_=>⟨⟨hM2,⟨⟨hM2,k3 _ hM2⟩,trivial⟩⟩,trivial⟩⟩
 ·have hkl:s.len<=k:=by simp at h; omega
  simp only [ea',Int.toNat_natCast]
  have hv:(hx++mkg mR 1 12)[k]'(by omega)=mR 1 ((k - s.len:Nat):Int):=by
   rw [List.getElem_append_right (by omega)]
   have:=qDI mR (n:=12) (i:=k - hx.length) (by omega)
   rw [List.getElem?_eq_getElem (by simp; omega)] at this
   rw [Option.some.inj this]
   congr 2; omega
  rw [hv] at hra
  let a:=mR 1 ((k - s.len:Nat):Int)
  refine ⟨⟨h9.dr,aC (λ_=>⟨⟨by omega,by omega⟩,a.a,a.b,a.c,a.d,a.e,a.f,a.g,λw' h=>hra.mod h λh=>h,?_,trivial⟩) λe=>by simp at e; omega⟩,trivial⟩
  rw [show zW ((k:Int) - (s.len:Int))=((k - s.len:Nat):Int) by rw [wrap_i64 (by omega)]; omega]
  refine aB kK ?_
  rintro v w2 ⟨rfl,k4⟩
  have hM2:=h9.dr.tr k4
  refine ⟨a.a,a.b,a.c,a.d,a.e,a.f,a.g,rfl,hM2,?_,trivial⟩
  refine aB (mF (a:=a) (b:=a) (qBU _ _ _) (qBU _ _ _)) ?_
  rintro v w3 ⟨rfl,p8⟩
  have k6:=hM2.tr p8
  exact ⟨_,rfl,k6,aC (λe=>by simp at e) λ_=>k3 _ k6⟩
theorem tZ {s:Slc} {rs:List Rc} (hs:fO w s rs) (hn:rs.length<=1000000) :
 Calls prog 9 #[.slice s.a s.len s.cap] w (Ret λv w'=>∃ x hx,v=x.val/\iM w.heap.size w' x rs hx/\Mod NoB w w'):=by
 refine jEW _ ?_
 unfold sh9
 obtain ⟨ir,hr1,hr2,u0,u1⟩:=iF
 have hL:=hs.len
 obtain ⟨hb,q1,q2,q3⟩:=hs
 rw [show zW ((s.len:Int)+12)=((s.len+12:Nat):Int) by rw [wrap_i64 (by omega)]; omega]
 refine iP (f:=Hd.cells) (z0:=(⟨[],0,0,⟨none,0,0⟩,false,⟨none,0,0⟩,⟨none,0,0⟩⟩:Hd)) (l:=0) (c:=s.len+12) fA hr1 hr2 u0 rfl rfl (by omega) u1 rfl rfl (by omega) (by omega) (by omega) (by omega) λb w1 hN1 v1=>⟨⟨_,_,_⟩,rfl,?_⟩
 have hat:=hN1.at_; have hsz:=hN1.size
 have q9 : ∀ {n:Nat} z,Slc.blk ⟨some ⟨b,0,none⟩,n,s.len+12⟩=some z->z=b:=λz hz=>by rw [Slc.blk_mk] at hz; split at hz <;> simp_all
 refine ⟨λl' w'=>match l' with | [.sl q,.i _ i]=>∃ (k:Nat) (hx:List Hd),i=k/\k<=rs.length/\q=⟨some ⟨b,0,none⟩,k,s.len+12⟩/\hx.length=k/\Sh.Own w' q 7 (aR Hd.cells hx)/\(∀ i (h:i<hx.length) (h':i<rs.length),bH w' hx[i] rs[i]/\jB w' hx[i] rs[i]/\∀ z,hx[i].on z->w1.heap.size<=z)/\(pieces hx).Pairwise Dis/\Mod NoB w w'/\w1.heap.size<=w'.heap.size | _=>False,
  λl' _=>match l' with | [.sl q,.i _ i]=>(rs.length - i).toNat | _=>0,⟨0,[],rfl,by omega,rfl,rfl,v1,λi hi=>by simp at hi,.nil,hN1.mod,Nat.le_refl _⟩,?_⟩
 rintro q i w2 ⟨k,hx,rfl,hk,rfl,hxl,u5,hI2,u6,p9,hz2⟩
 refine aC (λhlt=>?_) λhge=>?_
 ·have k5:k<rs.length:=by simp at hlt; omega
  obtain ⟨sa,es,hrs⟩:=aZ Hd.len (by omega) q1 (i:=k) (by omega)
  have g4:=q3 k (by omega) k5
  let c:=hb[k]'(by omega)
  refine ⟨⟨by omega,by omega⟩,bY es ⟨c.a,c.b,c.c,c.d,c.e,c.f,c.g,hrs.mod p9 λh=>h,?_⟩⟩
  refine aB (wI (h:=c) (g4.no p9)) ?_
  rintro v w3 ⟨h',rfl,H3,L3,N3,t6⟩
  refine ⟨h'.a,h'.b,h'.c,h'.d,h'.e,h'.f,h'.g,rfl,?_⟩
  refine aN (l:=hz0) hr1 hr2 rfl λp w4 u7 hb4=>⟨_,rfl,?_⟩
  refine cB (h:=h') (by kernel_rfl) (by kernel_rfl) hb4 rfl λw5 v6 v7=>?_
  have hp:=u7.at_
  have k3:Mod NoB w3 w5:=u7.mod.fresh v6.mod λz e=>by have e:z=p:=e; omega
  have h9:=t6.tr k3
  refine ⟨h'.a,h'.b,h'.c,h'.d,h'.e,h'.f,h'.g,rdH v7,?_⟩
  have hs2:=h9.size
  have u2 : ∀ x∈hx,∀ z,x.on z->z<w2.heap.size:=λx v8 z hz=>by
   obtain ⟨j,hj,rfl⟩:=List.mem_iff_getElem.1 v8
   exact (hI2 j hj (by omega)).1.lt z hz
  refine jP (f:=Hd.cells) (c:=h') (s:=⟨some ⟨b,0,none⟩,k,s.len+12⟩) fA hr1 hr2 u0 rfl u1 rfl rfl (by omega) (by omega) h'.one (u5.no h9) (by simp only []; omega) (by simp only []; omega) (λw6 q8 k6 p8=>?_) λb' cp w6 q8 y0 k6 y1 p8=>(by simp only [] at q8; omega)
  rw [aI (by omega)]
  have hm6b:Mod (λz=>z=b) w5 w6:=p8.mono λz _ hz=>q9 z hz
  have hs6:=p8.size
  have hw2:=p9.size
  refine ⟨⟨k+1,hx++[h'],rfl,by omega,rfl,by simp [hxl],?_,λj hj k4=>?_,qC u6 L3.p u2 N3,(p9.tr h9).fresh hm6b λz e=>by omega,by omega⟩,by (try simp only []); omega⟩
  ·rw [bP]
   simpa [aR] using k6
  ·rcases Nat.lt_or_ge j hx.length with h | h
   ·simp only [List.getElem_append_left h]
    obtain ⟨a1,a2,a3⟩:=hI2 j h k4
    exact ⟨(a1.no h9).mod hm6b λz hz e=>by have:=a3 z hz; omega,(a2.no h9).mod hm6b λz hz e=>by have:=a3 z hz; omega,a3⟩
   ·have:j=k:=by simp at hj; omega
    subst this
    simp only [List.getElem_append_right h,hxl,Nat.sub_self,List.getElem_cons_zero]
    have hge : ∀ z,h'.on z->w2.heap.size<=z:=λz hz=>N3 z hz
    exact ⟨(H3.no k3).mod hm6b λz hz e=>by have:=hge z hz; omega,(L3.no k3).mod hm6b λz hz e=>by have:=hge z hz; omega,λz hz=>by have:=hge z hz; omega⟩
 ·have k5:k=rs.length:=by simp at hge; omega
  subst k5
  refine ⟨λl' w'=>match l' with | [.sl q,.i _ i]=>∃ (k:Nat),i=k/\k<=12/\q=⟨some ⟨b,0,none⟩,rs.length+k,s.len+12⟩/\Sh.Own w' q 7 (aR Hd.cells (hx++mkg mR 1 k))/\(∀ i (h:i<hx.length) (h':i<rs.length),bH w' hx[i] rs[i]/\jB w' hx[i] rs[i])/\Mod NoB w w' | _=>False,
   λl' _=>match l' with | [.sl q,.i _ i]=>(12 - i).toNat | _=>0,⟨0,rfl,by omega,rfl,by simpa [mkg] using u5,λi h h'=>⟨(hI2 i h h').1,(hI2 i h h').2.1⟩,p9⟩,?_⟩
  rintro q i w3 ⟨k,rfl,hk,rfl,u3,u9,t6⟩
  refine aC (λhlt=>?_) λhge=>?_
  ·have k5:k<12:=by simp at hlt; omega
   refine aB kK ?_
   rintro v w4 ⟨rfl,t7⟩
   let c:=mR 1 (k:Int)
   refine ⟨c.a,c.b,c.c,c.d,c.e,c.f,c.g,rfl,?_⟩
   have u4:aR Hd.cells (hx++mkg mR 1 k)++Hd.cells (mR 1 k)=aR Hd.cells (hx++mkg mR 1 (k+1)):=by
    rw [jGA,<-List.append_assoc,bP (hx++mkg mR 1 k)]; simp [aR]
   refine jP (f:=Hd.cells) (c:=mR 1 k) (s:=⟨some ⟨b,0,none⟩,rs.length+k,s.len+12⟩) fA hr1 hr2 u0 rfl u1 rfl rfl (by omega) (by omega) (Hd.one _) (u3.no t7) (by simp only []; omega) (by simp only []; omega) (λw6 q8 k6 p8=>?_) λb' cp w6 q8 y0 k6 y1 p8=>(by simp only [] at q8; omega)
   rw [u4] at k6
   rw [aI (by omega)]
   have hm6b:Mod (λz=>z=b) w4 w6:=p8.mono λz _ hz=>q9 z hz
   refine ⟨⟨k+1,rfl,by omega,by rw [Nat.add_assoc],k6,λj hj k4=>?_,(t6.tr t7).fresh hm6b λz e=>by omega⟩,by (try simp only []); omega⟩
   obtain ⟨a1,a2,a3⟩:=hI2 j hj k4
   obtain ⟨b1,b2⟩:=u9 j hj k4
   exact ⟨(b1.no t7).mod hm6b λz hz e=>by have:=a3 z hz; omega,(b2.no t7).mod hm6b λz hz e=>by have:=a3 z hz; omega⟩
  ·have k5:k=12:=by simp at hge; omega
   subst k5
   refine ⟨⟨by omega,by simp only []; omega⟩,?_⟩
   rw [Int.toNat_natCast,uY (by simp only []; omega) (by simp only []; omega)]
   refine ⟨_,hx,rfl,⟨hxl,⟨by simp only []; omega,?_⟩,λz hz=>by have:=q9 z hz; omega,λj hj k4=>?_,u6⟩,t6⟩
   ·simp only []
    rw [show s.len+12=rs.length+12 by omega]
    rw [show s.len+12=rs.length+12 by omega] at u3
    exact u3
   ·obtain ⟨b1,b2⟩:=u9 j hj k4
    obtain ⟨a1,a2,a3⟩:=hI2 j hj k4
    exact ⟨b1,b2,λz hz=>⟨by have:=a3 z hz; omega,λe=>by have:=q9 z e; have:=a3 z hz; omega⟩⟩
end
def sh3 (l:Slc) (w:World) (R:RW):Prop:=
 aD prog 7 [] w (aG R) λv w1=>∃ x:Bool,v=(.bool x)/\aE (!x) (zF R false w1) (aD prog 8 [zS l] w1 (aG R) λv1 w2=>∃ x1:Bool,v1=(.bool x1)/\aE (!x1) (zF R true w2) (aD prog 9 [zS l] w2 (aG R) λv2 w3=>∃ x2:Slc,v2=(zS x2)/\aD prog 10 [zS x2] w3 (aG R) λv3 w4=>∃ x3:Slc,v3=(zS x3)/\aD prog 11 [zS x2] w4 (aG R) λv4 w5=>∃ x4:Slc,v4=(zS x4)/\∃ j:zT,(aD prog 13 [zS l] w5 (aG R) λv5 w6=>∃ x5:Slc,v5=(zS x5)/\aD prog 12 [zS x3,zS x5] w6 (aG R) λv6 w7=>∃ x6:Bool,v6=(.bool x6)/\aE (!x6) (j [.b true] w7) (aD prog 15 [zS l] w7 (aG R) λv7 w8=>∃ x7:Slc,v7=(zS x7)/\aD prog 14 [zS x4,zS x7] w8 (aG R) λv8 w9=>∃ x8:Bool,v8=(.bool x8)/\aE (!x8) (j [.b true] w9) (aD prog 16 [zS x2,zS l] w9 (aG R) λv9 w10=>∃ x9:Bool,v9=(.bool x9)/\j [.b (!x9)] w10)))/\(∀ x10:Bool,∀ w11:World,j [.b x10] w11->aE x10 (zF R false w11) (aH prog (Instr.buildSlice 33 2 #[(0,(zS x2)),(1,(zS x4))]) w11 λv10 w12=>∃ x11:Slc,v10=(zS x11)/\aD prog 17 [zS x11] w12 (aG R) λv11 w13=>∃ x12:Bool,v11=(.bool x12)/\aE x12 (aD prog 10 [zS l] w13 (aG R) λv12 w14=>∃ x13:Slc,v12=(zS x13)/\aH prog (Instr.buildSlice 35 2 #[(0,(zS x3)),(1,(zS x13))]) w14 λv13 w15=>∃ x14:Slc,v13=(zS x14)/\aD prog 18 [zS x14] w15 (aG R) λv14 w16=>∃ x15:Bool,v14=(.bool x15)/\R (.returned (.bool x15)) w16) (zF R false w13)))))
theorem jDQ (l:Slc) {w:World} {R:RW} (h9:sh3 l w R):Calls prog 3 #[zS l] w R:=
 zC (q0 .z (q0 (q0 .z (.cond (q0 .z .z) .z)) (q0 (q0 .z (.cond (q0 .z .z) .z)) (q0 .z (q0 .z (q0 (.seq (some [(34,.b)]) .z (.cond (q0 .z .z) .z)) (q0 .z .z))))))) func3 [.sl l] h9
end Go.Proofs.YthaefcgpbccmbaaGreatDoor
end
section
namespace Go.Proofs.YthaefcgpbccmbaaGreatDoor
open Go Go.Sh Go.MapKept
open Go.Proofs.Tryz
theorem pG : ∀ es:List ((zY×Slc)×List Hd),(pieces (es.flatMap (·.2))++es.map (·.1.2)).Perm (sA es)
 | []=>.refl _
 | e :: es=>by
   have ih:=pG es
   simp only [List.flatMap_cons,List.map_cons,iO]
   show ((pieces e.2++pieces (es.flatMap (·.2)))++e.1.2 :: es.map (·.1.2)).Perm ((e.1.2 :: pieces e.2)++sA es)
   refine (List.perm_middle).trans ?_
   rw [List.cons_append]
   refine List.Perm.cons _ ?_
   rw [List.append_assoc]
   exact ih.append_left _
theorem bO.now {B:Nat} {w w':World} {l:Slc} {rs:List Rc} {S:Nat->Prop} (h:bO B w l rs) (hB:B<=w.heap.size) (hm:Mod S w w') (hS : ∀ z,S z->B<=z):bO w'.heap.size w' l rs:=
 (h.mod (hm.mono λz _ hz=>hS z hz)).le (Nat.le_trans hB hm.size)
theorem iM.on {B:Nat} {w:World} {x:Slc} {rs:List Rc} {hs:List Hd} (h:iM B w x rs hs) : ∀ y∈hs,∀ z,y.on z->(B<=z/\x.blk≠some z)/\z<w.heap.size:=λy hy z hz=>by
 obtain ⟨i,hi,rfl⟩:=List.mem_iff_getElem.1 hy
 have hn:=h.n
 obtain ⟨g1,g2,g3⟩:=h.h i hi (by omega)
 exact ⟨g3 z hz,g1.lt z hz⟩
theorem iM.at {B:Nat} {w:World} {x:Slc} {rs:List Rc} {hs:List Hd} (h:iM B w x rs hs):bO w.heap.size w x rs:=
 ⟨hs,(h.l.own Hd.len).rd,λz hz=>h.l.lt hz,h.n,λi a b=>⟨(h.h i a b).1,λz hz=>(h.h i a b).1.lt z hz⟩⟩
theorem iM.ho {B:Nat} {w:World} {x:Slc} {rs:List Rc} {hs:List Hd} (h:iM B w x rs hs) : ∀ y∈hs,fN w y:=λy hy=>by
 obtain ⟨i,hi,rfl⟩:=List.mem_iff_getElem.1 hy
 have hn:=h.n
 obtain ⟨g1,g2,g3⟩:=h.h i hi (by omega)
 have:=g1.sm
 exact g2.own ⟨by omega,by omega,by omega⟩
theorem wW : ∀ (M:Lv) (n:Nat),(∀ e∈M,e.2.length<=n)->(M.flatMap (·.2)).length<=M.length*n
 | [],n,_=>by simp
 | e :: M,n,h=>by
   have h1:=h e (by simp)
   have h2:=wW M n λe he=>h e (by simp [he])
   simp only [List.flatMap_cons,List.length_append,List.length_cons,Nat.succ_mul]; omega
theorem dD.flat {Q:Nat->Prop} {w:World} {o:Slc} {L:Lv} {es:List ((zY×Slc)×List Hd)} (h:dD Q w o L es):(es.flatMap (·.2)).length=(L.flatMap (·.2)).length:=
 (wL (P:=λ_ _=>True) h.n λi a b=>⟨(h.e i a b).2.n,λ_ _ _=>trivial⟩).1
theorem dD.on {Q:Nat->Prop} {w:World} {o:Slc} {L:Lv} {es:List ((zY×Slc)×List Hd)} (h:dD Q w o L es) : ∀ e∈es,Sh.Own w e.1.2 7 (hcells e.2)/\∀ x∈e.2,fN w x:=λe he=>by
 obtain ⟨i,hi,rfl⟩:=List.mem_iff_getElem.1 he
 have:=h.n
 have g:=(h.e i hi (by omega)).2
 exact ⟨g.own,g.ho⟩
section
variable {w:World}
theorem yE {t e:TypeId} {x y:Slc} {K:Value->zP} (ut:prog.underlying t=some (.slice e)) (ie : ∃ i,prog.info? e=some i/\i.zero=some (.slice none 0 0)/\i.size=1/\i.bytes=24)
 (hK : ∀ (s:Slc) w',aK w' s 1 ([x,y].map Slc.val)->(∀ z,s.blk=some z->z<w'.heap.size)->Mod NoB w w'->K s.val w') :
 aH prog (Instr.buildSlice t 2 #[(0,(.slice x.a x.len x.cap)),(1,(.slice y.a y.len y.cap))]) w K:=by
 obtain ⟨i,h1,h2,h3,h4⟩:=ie
 refine bZ [x.val,y.val] (l:=[x.val,y.val]) ut h1 h2 h3 (by omega) rfl (by omega) (by omega) rfl (by intro v hv; simp at hv; rcases hv with rfl | rfl <;> rfl) (by simp [Value.cells,Slc.val]) λlb w8 k3 h9=>hK ⟨some ⟨lb,0,none⟩,2,2⟩ w8 (aY (n:=2) (k:=1) h9 rfl).rd (λz hz=>?_) k3.mod
 rw [Slc.blk_mk,if_neg (by omega)] at hz; cases hz; exact h9.lt
theorem wJ {s:Slc} {ls:List Rc} (hg:iW w) (hl:iY w s ls) (hn:s.len<=9000000000000000000) :
 Calls prog 3 #[.slice s.a s.len s.cap] w (Ret λv w'=>v = .bool true/\Mod NoB w w'):=by
 refine jDQ _ ?_
 unfold sh3
 refine aB (qPH hg) ?_
 rintro v w1 ⟨rfl,u9⟩
 refine ⟨_,rfl,aC (λh=>by cases h) λ_=>?_⟩
 refine aB (qRF (hl.no u9) hn) ?_
 rintro v w2 ⟨b,rfl,hb,rfl⟩
 refine ⟨b,rfl,aC (λh=>⟨rfl,u9⟩) λh=>?_⟩
 have hq:=hb (by simpa using h)
 have hA:=(hl.no u9).at hq
 have hq1:=hq.1
 have hlen:=hl.len
 refine aB (tZ hA.r (by omega)) ?_
 rintro v w3 ⟨xin,hin,rfl,k6,j6⟩
 refine ⟨xin,rfl,?_⟩
 have s3:=j6.size
 refine aB (mI k6.at (by omega)) ?_
 rintro v w4 ⟨xa,L,ea,rfl,hL,b5,y7⟩
 refine ⟨xa,rfl,?_⟩
 have s4:=y7.size
 refine aB (pV ((k6.no y7).at) (by omega)) ?_
 rintro v w5 ⟨xb,L2,u5,rfl,hL2,b6,y0⟩
 obtain rfl:=hL.uniq hL2 λ_=>Iff.rfl
 refine ⟨xb,rfl,?_⟩
 have s5:=y0.size
 have t6:=y7.tr y0
 have p8:=j6.tr t6
 obtain ⟨n1,n2⟩:=kH hL
 have hfl:(L.flatMap (·.2)).length<=10000:=by
  have h3:=wW L ls.length n2
  have h4:=Nat.mul_le_mul n1 (Nat.le_refl ls.length)
  have h5:=Nat.mul_le_mul hq1 hq1
  omega
 refine ⟨λl' w'=>match l' with | [.b t]=>t=false/\Mod NoB w5 w' | _=>False,?_,?_⟩
 ·refine aB (pY (hA.now (Nat.le_refl _) p8 λ_ h=>h.elim) (by omega)) ?_
  rintro v w6 ⟨x6,L6,rfl,hL6,i7,a6⟩
  obtain rfl:=hL.uniq hL6 λ_=>Iff.rfl
  refine ⟨x6,rfl,?_⟩
  refine aB (vP ((b5.sq.r.no y0).no a6) i7.r (by omega) (λe he=>by have:=n2 e he; omega)) ?_
  rintro v w7 ⟨rfl,i8⟩
  refine ⟨_,rfl,aC (λh=>by simp at h) λ_=>?_⟩
  have t7:=a6.tr i8
  refine aB (tV (hA.now (Nat.le_refl _) (p8.tr t7) λ_ h=>h.elim) (by omega)) ?_
  rintro v w8 ⟨x8,L8,rfl,o0,o1,a7⟩
  obtain rfl:=hL.uniq o0 λ_=>Iff.rfl
  refine ⟨x8,rfl,?_⟩
  refine aB (iN ((b6.s.r.no t7).no a7) o1 (by omega)) ?_
  rintro v w9 ⟨rfl,o2⟩
  refine ⟨_,rfl,aC (λh=>by simp at h) λ_=>?_⟩
  have u0:=(t7.tr a7).tr o2
  refine aB (tQ (k6.no (t6.tr u0)) (hA.now (Nat.le_refl _) (p8.tr u0) λ_ h=>h.elim).r (by omega)) ?_
  rintro v o9 ⟨rfl,y8⟩
  exact ⟨_,rfl,rfl,u0.tr y8⟩
 rintro t r0 ⟨rfl,y9⟩
 refine aC (λh=>by cases h) λ_=>?_
 refine yE (x:=xin) (y:=xb) (t:=33) (e:=22) (by kernel_rfl) (bC (by kernel_rfl) (by kernel_rfl) (by kernel_rfl)) λp a8 z1 hpl z6=>⟨p,rfl,?_⟩
 have k4:=y9.tr z6
 have u1:=k6.no (t6.tr k4)
 obtain ⟨z7,o3,B,y1,r7,o4⟩:=b6
 have k5:sJ (λz=>w4.heap.size<=z) a8 xb (L.flatMap (·.2)) u5:=z7.mod k4 λz hz _=>⟨λh=>h,hz⟩
 have lin:=bA Hd.len (by omega) (u1.l.own Hd.len).rd
 have lb:=bA Hd.len (by omega) k5.own.rd
 have o5:=k6.n
 have hbn:=z7.n
 have u2 : ∀ z,xin.blk=some z->w2.heap.size<=z/\z<w3.heap.size:=λz hz=>⟨k6.b z hz,k6.l.lt hz⟩
 have p9 : ∀ x∈pieces hin,∀ z,x.blk=some z->(w2.heap.size<=z/\xin.blk≠some z)/\z<w3.heap.size:=iB λy hy z hz=>k6.on y hy z hz
 have y2 : ∀ x∈pieces u5,∀ z,x.blk=some z->w4.heap.size<=z/\z<B:=iB λy hy z hz=>⟨z7.on y hy z hz,o4 y hy z hz⟩
 have o6:(pieces (hin++u5)++[xin,xb]).Pairwise Dis:=by
  rw [iO,List.pairwise_append,List.pairwise_append]
  refine ⟨⟨k6.p,o3,λa ha c hc=>eD (λz hz=>(p9 a ha z hz).2) λz hz=>by have:=(y2 c hc z hz).1; omega⟩,?_,λa ha c hc=>?_⟩
  ·refine List.pairwise_cons.2 ⟨λc hc=>?_,List.pairwise_singleton _ _⟩
   simp at hc; subst hc
   exact eD (λz hz=>(u2 z hz).2) λz hz=>by have:=y1 z hz; omega
  ·rcases List.mem_append.1 ha with ha | ha
   ·simp at hc
    rcases hc with rfl | rfl
    ·exact λz hz v1=>(p9 a ha z hz).1.2 v1
    ·exact eD (λz hz=>(p9 a ha z hz).2) λz hz=>by have:=y1 z hz; omega
   ·simp at hc
    rcases hc with rfl | rfl
    ·exact Dis.symm (eD (λz hz=>(u2 z hz).2) λz hz=>by have:=(y2 a ha z hz).1; omega)
    ·exact eD (λz hz=>(y2 a ha z hz).2) λz hz=>y1 z hz
 refine aB (rK (es:=[(xin,hin),(xb,u5)]) z1 hpl (λe he=>?_) (λh hh=>?_) (by simpa using o6) (by simp; omega) (by simp)) ?_
 ·simp at he
  rcases he with rfl | rfl
  ·exact ⟨u1.l.own Hd.len,by show xin.len<=_; omega⟩
  ·exact ⟨k5.own,by show xb.len<=_; omega⟩
 ·simp at hh
  rcases hh with hh | hh
  ·exact u1.ho h hh
  ·exact k5.ho h hh
 rintro v u6 ⟨rfl,u3⟩
 refine ⟨_,rfl,aC (λ_=>?_) λh=>by simp at h⟩
 have hE : ∀ z,E (pieces (([(xin,hin),(xb,u5)]:List (Slc×List Hd)).flatMap (·.2))++([(xin,hin),(xb,u5)]:List (Slc×List Hd)).map (·.1)) z->w2.heap.size<=z/\(z<w3.heap.size\/w4.heap.size<=z):=by
  rintro z ⟨x,hx,e⟩
  simp [iO] at hx
  rcases hx with hx | hx | rfl | rfl
  ·have:=p9 x hx z e; exact ⟨this.1.1,.inl this.2⟩
  ·have:=y2 x hx z e; exact ⟨by omega,.inr this.1⟩
  ·have:=u2 z e; exact ⟨this.1,.inl this.2⟩
  ·have:=y1 z e; exact ⟨by omega,.inr (by omega)⟩
 have q8:=p8.tr k4
 have r8:=q8.size
 have q9:Mod NoB w2 u6:=q8.fresh u3 λz hz=>(hE z hz).1
 have z8:bO u6.heap.size u6 s ls:=hA.now (Nat.le_refl _) q9 λ_ h=>h.elim
 have v6:dD (λz=>w3.heap.size<=z/\z<w4.heap.size) u6 xa L ea:=by
  have h0:dD (λz=>w3.heap.size<=z/\z<w4.heap.size) a8 xa L ea:=b5.mod (y0.tr k4) λz hz hl=>⟨λh=>h,hz,hl⟩
  exact h0.mod u3 λz hz _=>⟨λe=>by have:=(hE z e).2; omega,hz⟩
 refine aB (mI z8 (by omega)) ?_
 rintro v r9 ⟨xc,L4,ec,rfl,hL4,o7,v7⟩
 obtain rfl:=hL.uniq hL4 λ_=>Iff.rfl
 refine ⟨xc,rfl,?_⟩
 have s6:=u3.size
 have o8:=k4.size
 refine yE (x:=xa) (y:=xc) (t:=35) (e:=26) (by kernel_rfl) (bC (by kernel_rfl) (by kernel_rfl) (by kernel_rfl)) λp2 y5 j2 j3 u4=>⟨p2,rfl,?_⟩
 have h9:dD (λz=>w3.heap.size<=z/\z<w4.heap.size) y5 xa L ea:=v6.mod (v7.tr u4) λz hz _=>⟨λh=>h,hz⟩
 have k3:dD (λz=>u6.heap.size<=z) y5 xc L ec:=o7.mod u4 λz hz _=>⟨λh=>h,hz⟩
 have na:=h9.n
 have nc:=k3.n
 have fa:=h9.flat
 have fc:=k3.flat
 have la:=bA cL (by omega) h9.own.rd
 have lc:=bA cL (by omega) k3.own.rd
 rw [List.length_map] at la lc
 have oa:=h9.low
 have oc:=k3.low
 have j4:w4.heap.size<=u6.heap.size:=by omega
 have j5:(pieces ((ea++ec).flatMap (·.2))++(ea++ec).map (·.1.2)++[xa,xc]).Pairwise Dis:=by
  refine (((pG (ea++ec)).append_right _).pairwise_iff λ{a b}=>Dis.symm).2 ?_
  rw [sZ,List.pairwise_append,List.pairwise_append]
  refine ⟨⟨h9.p,k3.p,λa ha c hc=>eD (λz hz=>(oa a ha z hz).1.1.2) λz hz=>by have:=(oc c hc z hz).1.1; omega⟩,?_,λa ha c hc=>?_⟩
  ·refine List.pairwise_cons.2 ⟨λc hc=>?_,List.pairwise_singleton _ _⟩
   simp at hc; subst hc
   exact eD (λz hz=>(h9.q z hz).2) λz hz=>by have:=k3.q z hz; omega
  ·rcases List.mem_append.1 ha with ha | ha
   ·simp at hc
    rcases hc with rfl | rfl
    ·exact λz hz v1=>(oa a ha z hz).1.2 v1
    ·exact eD (λz hz=>(oa a ha z hz).1.1.2) λz hz=>by have:=k3.q z hz; omega
   ·simp at hc
    rcases hc with rfl | rfl
    ·exact Dis.symm (eD (λz hz=>(h9.q z hz).2) λz hz=>by have:=(oc a ha z hz).1.1; omega)
    ·exact λz hz v1=>(oc a ha z hz).1.2 v1
 have i6 : ∀ e∈ea++ec,(Sh.Own y5 e.1.2 7 (hcells e.2)/\e.1.2.len<=1000000000)/\∀ x∈e.2,fN y5 x:=λe he=>by
  have hle : ∀ {es:List ((zY×Slc)×List Hd)},(es.flatMap (·.2)).length<=10000->e∈es->e.2.length<=10000:=λ{es} hh he=>by
   have:(e.2).Sublist (es.flatMap (·.2)):=List.sublist_flatten_of_mem (List.mem_map.2 ⟨e,he,rfl⟩)
   exact Nat.le_trans this.length_le hh
  rcases List.mem_append.1 he with h | h
  ·obtain ⟨g1,g2⟩:=h9.on e h
   have:=bA Hd.len (by omega) g1.rd
   have:=hle (by omega) h
   exact ⟨⟨g1,by omega⟩,g2⟩
  ·obtain ⟨g1,g2⟩:=k3.on e h
   have:=bA Hd.len (by omega) g1.rd
   have:=hle (by omega) h
   exact ⟨⟨g1,by omega⟩,g2⟩
 have u7:([(xa,ea),(xc,ec)]:List (Slc×List ((zY×Slc)×List Hd))).flatMap (·.2)=ea++ec:=by simp
 refine aB (tK (es:=[(xa,ea),(xc,ec)]) j2 j3 (λe he=>?_) (λe he=>?_) (λh hh=>?_) (by rw [u7]; exact j5) (by rw [u7,List.flatMap_append,List.length_append]; omega) (by simp) (by rw [u7,List.length_append]; omega)) ?_
 ·simp at he
  rcases he with rfl | rfl
  ·exact ⟨h9.own,by show xa.len<=_; omega⟩
  ·exact ⟨k3.own,by show xc.len<=_; omega⟩
 ·rw [u7] at he
  exact (i6 e he).1
 ·rw [u7] at hh
  obtain ⟨e,he,hh⟩:=List.mem_flatMap.1 hh
  exact (i6 e he).2 h hh
 rintro v s7 ⟨rfl,v8⟩
 rw [u7] at v8
 refine ⟨_,rfl,rfl,(u9.tr ((q9.tr v7).tr u4)).fresh v8 ?_⟩
 have s1:=u9.size
 rintro z ⟨x,hx,e⟩
 rcases List.mem_append.1 hx with hx | hx
 ·have hx:=(pG (ea++ec)).mem_iff.1 hx
  rw [sZ] at hx
  rcases List.mem_append.1 hx with hx | hx
  ·have:=(oa x hx z e).1.1.1; omega
  ·have:=(oc x hx z e).1.1; omega
 ·simp at hx
  rcases hx with rfl | rfl
  ·have:=(h9.q z e).1; omega
  ·have:=k3.q z e; omega
end
end Go.Proofs.YthaefcgpbccmbaaGreatDoor
end
