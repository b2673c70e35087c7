/- The forms of the translated functions,their contracts and the plain laws behind them,put together by a program. -/
import Derived.Test.YtmgcoepbccgjfaaGreatDoorPB26
import Derived.Lib.BytesEntry
import Derived.Test.YtmgcoepbccgjfaaGreatDoorProg
set_option linter.unusedSimpArgs false
set_option linter.unusedVariables false
set_option maxRecDepth 1000000
set_option maxHeartbeats 8000000
section
namespace Go.Proofs.YtmgcoepbccgjfaaGreatDoor
open Go Go.Sh Go.X
section
variable {w:World}
theorem run_bytesOfS {s:Slc} {l:List UInt8} (h:SlRd w s 1 (bys l)):(Extern.Bytes.bytesOf (.slice s.a s.len s.cap)).run Tryz.prog w = .ok ⟨l.toArray⟩ w:=by
 have hl:=rd_len8 h
 cases ha:s.a with
 | none=>
   have:l=[]:=by
    rcases h.2.2 with h0 | ⟨b,e1,_⟩
    ·exact bys_inj (b:=[]) h0
    ·rw [ha] at e1; cases e1
   subst this; rfl
 | some a=>
   have hrd:Rd w a (bys l):=by
    rcases h.2.2 with h0 | ⟨b,e1,e2⟩
    ·rw [h0]; intro j v hj; simp at hj
    ·rw [ha] at e1; cases e1; exact e2
   have hx:=Lib.run_loadBytesX (P:=Tryz.prog) w (l.map λu=>(u.toNat:Int)) a ByteArray.empty (λj x hj=>by
    simp only [List.getElem?_map,Option.map_eq_some_iff] at hj
    obtain ⟨u,hu,rfl⟩:=hj
    exact hrd j _ (by simp [bys,hu]))
   simp only [List.length_map] at hx
   rw [hl] at hx
   show (Extern.Bytes.loadBytes a s.len ByteArray.empty).run Tryz.prog w=_
   have eb:Lib.bytesOf (l.map λu=>(u.toNat:Int))=l:=by
    unfold Lib.bytesOf
    rw [List.map_map]
    conv=>rhs; rw [<-List.map_id l]
    apply List.map_congr_left
    intro u _
    simp
   rw [hx,eb]
   show Result.ok (ByteArray.mk (#[]++l.toArray)) w=_
   simp
theorem c_bcmp {a b:Slc} {l m:List UInt8} (ha:SlRd w a 1 (bys l)) (hb:SlRd w b 1 (bys m)):Calls Tryz.prog 603 #[.slice a.a a.len a.cap,.slice b.a b.len b.cap] w (Ret λv w'=>v = .int .i64 (Lib.compareBytes l m)/\w'=w):=by
 refine call603 _ _ ?_
 unfold sh603
 refine ⟨.int .i64 (Lib.compareBytes l m),w,?_,_,rfl,rfl,rfl⟩
 rw [run_callFunc_extern Tryz.func668 (by kernel_rfl) (by kernel_rfl) (by kernel_rfl) (e:=Extern.BytealgCompare.compare) (by kernel_rfl)]
 have e:(Extern.BytealgCompare.compare #[.slice a.a a.len a.cap,.slice b.a b.len b.cap]).run Tryz.prog w = .ok (.int .i64 (Lib.compareBytes l m)) w:=by
  show (do pure (goInt (Extern.BytealgCompare.cmp (<-Extern.Bytes.bytesOf (.slice a.a a.len a.cap)) (<-Extern.Bytes.bytesOf (.slice b.a b.len b.cap)))):Sem Value).run Tryz.prog w=_
  simp only [Sem.run_bind,run_bytesOfS ha,Result.andThen_ok,run_bytesOfS hb,Sem.run_pure,Lib.cmp_eq]
  rfl
 rw [e]; rfl
end
noncomputable def bcQ (f:FuncId) (xs:List XV) (h:Hp):Option XV:=X.br (Nat.beq f 603) (match xs with
 | [a,b]=>onO (bytesOf h a) λl=>onO (bytesOf h b) λm=>some (.int .i64 (cmpN l m))
 | _=>none) none
theorem bytesOf_lt {S0:Nat->Prop} {w0 w:World} {ρ:Lab} {h:Hp} (hi:Inv S0 w0 ρ h w) {x:XV} {ns:List Nat} (hr:bytesOf h x=some ns) {v:Value} (hx:XR ρ x v) : ∀ z∈ns,z<256:=by
 unfold bytesOf at hr
 obtain ⟨⟨n,cs⟩,h1,h2⟩:=onO_some hr
 obtain ⟨s,vs,e1,e2,e3,e4⟩:=rdSl_at hi h1 hx
 exact (bytesX_ok h2 e2).1
theorem bcQ_ok {f:FuncId} {xs:List XV} {h:Hp} {y:XV} (hr:bcQ f xs h=some y):QuietOk Tryz.prog GS f xs h y:=by
 unfold bcQ at hr
 obtain ⟨h1,hr1⟩:=br_some hr
 clear hr
 have h1:=Nat.eq_of_beq_eq_true h1
 subst h1
 split at hr1
 ·next a b=>
  obtain ⟨l,h2,hr2⟩:=onO_some hr1
  obtain ⟨m,h3,hr3⟩:=onO_some hr2
  cases hr3
  intro S0 w0 ρ w vs hG hi hxs
  simp only [XRs] at hxs
  obtain ⟨u,vs',rfl,h4,v,vs2,rfl,h5,rfl⟩:=hxs
  obtain ⟨s,rfl,h6,h7⟩:=bytesOf_ok hi h2 h4
  obtain ⟨s',rfl,h8,h9⟩:=bytesOf_ok hi h3 h5
  refine Calls.mono (c_bcmp h6 h8) λe w' he=>?_
  cases e <;> first | exact he.elim | skip
  obtain ⟨rfl,rfl⟩:=he
  refine ⟨_,rfl,?_,hi⟩
  rw [cmpN_eq (bytesOf_lt hi h2 h4) (bytesOf_lt hi h3 h5)]
  simp only [XR]
 ·cases hr1
noncomputable def qA (f:FuncId) (xs:List XV) (h:Hp):Option XV:=match cloneQ f xs with
 | some r=>some r
 | none=>match shQ shTab f xs with
   | some r=>some r
   | none=>bcQ f xs h
theorem qA_ok {f:FuncId} {xs:List XV} {h:Hp} {y:XV} (hr:qA f xs h=some y):QuietOk Tryz.prog GS f xs h y:=by
 unfold qA at hr
 split at hr
 ·next r h1=>cases hr; exact cloneQ_ok h1 h
 ·split at hr
  ·next r h1=>cases hr; exact shQ_ok shTab_ok h1 h
  ·exact bcQ_ok hr
noncomputable def vers:List Ent:=[verE pk2 sg0 ta0_0 54857,verE pk0 sg2 ta2_0 55149,verE pk1 sg1 ta1_0 53191,verE pk1 sg3 ta3_0 53385,verE pk1 sg4 ta4_0 54840,verE pk1 sg5 ta5_0 53889,verE pk0 sg6 ta6_0 53579,verE pk0 sg7 ta7_0 55519,verE pk0 sg8 ta8_0 54663,verE pk1 sg9 ta9_0 54550]
theorem vers_ok : ∀ e∈vers,EntOk Tryz.prog GS e:=λe he=>by
 simp only [vers,List.mem_cons,List.mem_nil_iff,or_false] at he
 rcases he with rfl | rfl | rfl | rfl | rfl | rfl | rfl | rfl | rfl | rfl
 ·exact ver_ok ver0
 ·exact ver_ok ver1
 ·exact ver_ok ver2
 ·exact ver_ok ver3
 ·exact ver_ok ver4
 ·exact ver_ok ver5
 ·exact ver_ok ver6
 ·exact ver_ok ver7
 ·exact ver_ok ver8
 ·exact ver_ok ver9
noncomputable def nA:CallsX:=⟨orC seedC (orC (tabC 61 key1 pubTab) (orC (tabC 163 key2 sigTab) (orC (tabC 94 keyR digTab) (entsC vers)))),cmpE,globE,qA,λ_ _ _=>none,cloneX⟩
theorem nA_ok:CallsOk Tryz.prog GS nA:=⟨orC_ok seedC_ok (orC_ok (pubC_ok pubTab_ok) (orC_ok (sigC_ok sigTab_ok) (orC_ok (digC_ok digTab_ok) λf xs h y h'=>entsC_ok vers_ok))),λ_ _ _ h=>cmpE_ok h,λ_ _ _ h=>globE_ok GS_GE h,λ_ _ _ _ hr=>qA_ok hr,λ_ _ _ _ _ h=>(by cases h),λ_ _ _ _ _ h=>cloneX_ok h⟩
noncomputable abbrev runA (f:FuncId) (xs:List XV) (h:Hp):Option (XV×Hp):=(xcalls Tryz.prog dF nA 1000 60).c f xs h
end Go.Proofs.YtmgcoepbccgjfaaGreatDoor
end
section
namespace Go.Proofs.YtmgcoepbccgjfaaGreatDoor
open Go Go.Sh
def sh17 (c:Option Addr) (w:World) (R:Ending->World->Prop):Prop:=
 pureSem Tryz.prog (do eqGuard .neq 29 (.tmp 3) (.const (.pointer none)) (.pointer c) (.pointer none); binOp .neq 29 (.pointer c) (.pointer none)) λv=>∃ x:Bool,v=(.bool x)/\condK x (onSome c λa=>∃ x1:Option Nat,Rd w (a.add 3) [.map x1]/\pureSem Tryz.prog (do eqGuard .neq 35 (.tmp 9) (.const (.map none)) (.map x1) (.map none); binOp .neq 35 (.map x1) (.map none)) λv1=>∃ x2:Bool,v1=(.bool x2)/\R (.returned (.bool x2)) w) (R (.returned (.bool false)) w)
theorem call17 (c:Option Addr) {w:World} {R:Ending->World->Prop} (hden:sh17 c w R):Calls Tryz.prog 17 #[.pointer c] w R:=
 calls_of_form (.seq none .z (.seq none .z .z)) Tryz.func17 (by kernel_rfl) [.p c] (by kernel_rfl) (by kernel_rfl) hden
def sh9 (c:Option Addr) (w:World) (R:Ending->World->Prop):Prop:=
 callK Tryz.prog 17 [.pointer c] w (panR R) λv w1=>∃ x:Bool,v=(.bool x)/\condK (!x) (R (.returned (.slice none 0 0)) w1) (onSome c λa=>∃ x1:Option Addr,Rd w1 ((a.add 0).add 1) [.pointer x1]/\callK Tryz.prog 24 [.pointer x1] w1 (panR R) λv1 w2=>∃ x2:Slc,v1=(.slice x2.a x2.len x2.cap)/\R (.returned (.slice x2.a x2.len x2.cap)) w2)
theorem call9 (c:Option Addr) {w:World} {R:Ending->World->Prop} (hden:sh9 c w R):Calls Tryz.prog 9 #[.pointer c] w R:=
 calls_of_form (.seq none .z (.seq none (.seq none .z (.cond (.seq none .z .z) .z)) (.seq none .z .z))) Tryz.func9 (by kernel_rfl) [.p c] (by kernel_rfl) (by kernel_rfl) hden
def sh10 (c:Option Addr) (w:World) (R:Ending->World->Prop):Prop:=
 callK Tryz.prog 17 [.pointer c] w (panR R) λv w1=>∃ x:Bool,v=(.bool x)/\condK (!x) (R (.returned (.slice none 0 0)) w1) (onSome c λa=>∃ x1:Option Addr,Rd w1 ((a.add 0).add 1) [.pointer x1]/\callK Tryz.prog 25 [.pointer x1] w1 (panR R) λv1 w2=>∃ x2:Slc,v1=(.slice x2.a x2.len x2.cap)/\R (.returned (.slice x2.a x2.len x2.cap)) w2)
theorem call10 (c:Option Addr) {w:World} {R:Ending->World->Prop} (hden:sh10 c w R):Calls Tryz.prog 10 #[.pointer c] w R:=
 calls_of_form (.seq none .z (.seq none (.seq none .z (.cond (.seq none .z .z) .z)) (.seq none .z .z))) Tryz.func10 (by kernel_rfl) [.p c] (by kernel_rfl) (by kernel_rfl) hden
def sh6 (c:Option Addr) (id:Int) (w:World) (R:Ending->World->Prop):Prop:=
 semK Tryz.prog (Instr.alloc 45 true (.tuple #[])) w λv w1=>∃ x:Option Addr,v=(.pointer x)/\∃ j:List TV->World->Prop,(callK Tryz.prog 17 [.pointer c] w1 (panR R) λv1 w2=>∃ x1:Bool,v1=(.bool x1)/\condK (!x1) (j [.b true] w2) (callK Tryz.prog 18 [.pointer c,.int .i64 id] w2 (panR R) λv2 w3=>∃ x2:Option Addr,v2=(.pointer x2)/\pureSem Tryz.prog (do eqGuard .eql 73 (.tmp 12) (.const (.pointer none)) (.pointer x2) (.pointer none); binOp .eql 73 (.pointer x2) (.pointer none)) λv3=>∃ x3:Bool,v3=(.bool x3)/\j [.b x3] w3))/\(∀ x4:Bool,∀ w4:World,j [.b x4] w4->condK x4 (onSome x λa=>semU Tryz.prog (storeVar 45 a (.agg #[.slice none 0 0,.slice none 0 0,.slice none 0 0,.slice none 0 0])) w4 λw5=>onSome x λa1=>∃ xa xb xc xd:Slc,Rd w5 a1 [.slice xa.a xa.len xa.cap,.slice xb.a xb.len xb.cap,.slice xc.a xc.len xc.cap,.slice xd.a xd.len xd.cap]/\R (.returned (.tuple #[.agg #[.slice xa.a xa.len xa.cap,.slice xb.a xb.len xb.cap,.slice xc.a xc.len xc.cap,.slice xd.a xd.len xd.cap],.bool false])) w5) (callK Tryz.prog 18 [.pointer c,.int .i64 id] w4 (panR R) λv4 w6=>∃ x5:Option Addr,v4=(.pointer x5)/\callK Tryz.prog 19 [.pointer x5] w6 (panR R) λv5 w7=>∃ xa1 xb1 xc1 xd1:Slc,v5=(.agg #[.slice xa1.a xa1.len xa1.cap,.slice xb1.a xb1.len xb1.cap,.slice xc1.a xc1.len xc1.cap,.slice xd1.a xd1.len xd1.cap])/\onSome x λa2=>semU Tryz.prog (storeVar 45 a2 (.agg #[.slice xa1.a xa1.len xa1.cap,.slice xb1.a xb1.len xb1.cap,.slice xc1.a xc1.len xc1.cap,.slice xd1.a xd1.len xd1.cap])) w7 λw8=>onSome x λa3=>∃ xa2 xb2 xc2 xd2:Slc,Rd w8 a3 [.slice xa2.a xa2.len xa2.cap,.slice xb2.a xb2.len xb2.cap,.slice xc2.a xc2.len xc2.cap,.slice xd2.a xd2.len xd2.cap]/\R (.returned (.tuple #[.agg #[.slice xa2.a xa2.len xa2.cap,.slice xb2.a xb2.len xb2.cap,.slice xc2.a xc2.len xc2.cap,.slice xd2.a xd2.len xd2.cap],.bool true])) w8))
theorem call6 (c:Option Addr) (id:Int) {w:World} {R:Ending->World->Prop} (hden:sh6 c id w R):Calls Tryz.prog 6 #[.pointer c,.int .i64 id] w R:=
 calls_of_form (.seq none .z (.seq none (.seq (some [(14,.b)]) .z (.cond (.seq none .z .z) .z)) (.seq none .z .z))) Tryz.func6 (by kernel_rfl) [.p c,.i .i64 id] (by kernel_rfl) (by kernel_rfl) hden
def sh12 (c:Option Addr) (id:Int) (w:World) (R:Ending->World->Prop):Prop:=
 semK Tryz.prog (Instr.alloc 58 true (.tuple #[])) w λv w1=>∃ x:Option Addr,v=(.pointer x)/\∃ j:List TV->World->Prop,(callK Tryz.prog 17 [.pointer c] w1 (panR R) λv1 w2=>∃ x1:Bool,v1=(.bool x1)/\condK (!x1) (j [.b true] w2) (condK (decide (id<(1:Int))) (j [.b true] w2) (onSome c λa=>∃ x2:Slc,Rd w2 (a.add 2) [.slice x2.a x2.len x2.cap]/\j [.b (decide (id > (x2.len:Int)))] w2)))/\(∀ x3:Bool,∀ w3:World,j [.b x3] w3->condK x3 (onSome x λa1=>semU Tryz.prog (storeVar 58 a1 (.agg #[.int .i64 (0:Int),.slice none 0 0,.slice none 0 0,.slice none 0 0])) w3 λw4=>onSome x λa2=>∃ xa:Int,∃ xb xc xd:Slc,Rd w4 a2 [.int .i64 xa,.slice xb.a xb.len xb.cap,.slice xc.a xc.len xc.cap,.slice xd.a xd.len xd.cap]/\R (.returned (.agg #[.int .i64 xa,.slice xb.a xb.len xb.cap,.slice xc.a xc.len xc.cap,.slice xd.a xd.len xd.cap])) w4) (onSome c λa3=>∃ x4:Slc,Rd w3 (a3.add 2) [.slice x4.a x4.len x4.cap]/\((0<=(IntKind.i64.wrap (id - (1:Int)))/\(IntKind.i64.wrap (id - (1:Int)))<(x4.len:Nat))/\onSome x4.a λa4=>∃ xa1:Int,∃ xb1 xc1 xd1:Slc,Rd w3 (a4.add (((IntKind.i64.wrap (id - (1:Int)))).toNat*4)) [.int .i64 xa1,.slice xb1.a xb1.len xb1.cap,.slice xc1.a xc1.len xc1.cap,.slice xd1.a xd1.len xd1.cap]/\semK Tryz.prog (Instr.alloc 58 true (.tuple #[])) w3 λv2 w5=>∃ x5:Option Addr,v2=(.pointer x5)/\onSome x5 λa5=>semU Tryz.prog (storeVar 58 a5 (.agg #[.int .i64 xa1,.slice xb1.a xb1.len xb1.cap,.slice xc1.a xc1.len xc1.cap,.slice xd1.a xd1.len xd1.cap])) w5 λw6=>onSome x5 λa6=>∃ x6:Slc,Rd w6 (a6.add 1) [.slice x6.a x6.len x6.cap]/\callK Tryz.prog 29 [.slice x6.a x6.len x6.cap] w6 (panR R) λv3 w7=>∃ x7:Slc,v3=(.slice x7.a x7.len x7.cap)/\onSome x5 λa7=>semU Tryz.prog (storeVar 23 (a7.add 1) (.slice x7.a x7.len x7.cap)) w7 λw8=>∃ sx:World->Prop,sx w8.drew/\onSome c λa8=>onSome c λa9=>∃ x8:Slc,(∀ w',sx w'->Rd w' (a8.add 2) [.slice x8.a x8.len x8.cap])/\∃ x9:Slc,(∀ w',sx w'->Rd w' (a9.add 4) [.slice x9.a x9.len x9.cap])/\((callK Tryz.prog 30 [.int .i64 (1:Int),.int .i64 (x8.len:Int)] w8.drew (panR R) λv4 w9=>∃ x10:Slc,v4=(.slice x10.a x10.len x10.cap)/\(sx w9/\onSome x5 λa10=>((callK Tryz.prog 31 [.int .i64 (x9.len:Int)] w9 (panR R) λv5 w10=>∃ x11:Slc,v5=(.slice x11.a x11.len x11.cap)/\(sx w10/\((semU Tryz.prog (storeVar 55 (a10.add 2) (.slice x10.a x10.len x10.cap)) w10 λw11=>(sx w11/\onSome x5 λa11=>((semU Tryz.prog (storeVar 56 (a11.add 3) (.slice x11.a x11.len x11.cap)) w11 λw12=>onSome x5 λa12=>∃ xa2:Int,∃ xb2 xc2 xd2:Slc,Rd w12 a12 [.int .i64 xa2,.slice xb2.a xb2.len xb2.cap,.slice xc2.a xc2.len xc2.cap,.slice xd2.a xd2.len xd2.cap]/\onSome x λa13=>semU Tryz.prog (storeVar 58 a13 (.agg #[.int .i64 xa2,.slice xb2.a xb2.len xb2.cap,.slice xc2.a xc2.len xc2.cap,.slice xd2.a xd2.len xd2.cap])) w12 λw13=>onSome x λa14=>∃ xa3:Int,∃ xb3 xc3 xd3:Slc,Rd w13 a14 [.int .i64 xa3,.slice xb3.a xb3.len xb3.cap,.slice xc3.a xc3.len xc3.cap,.slice xd3.a xd3.len xd3.cap]/\R (.returned (.agg #[.int .i64 xa3,.slice xb3.a xb3.len xb3.cap,.slice xc3.a xc3.len xc3.cap,.slice xd3.a xd3.len xd3.cap])) w13)/\True)))/\True)))/\True)))/\True))))
theorem call12 (c:Option Addr) (id:Int) {w:World} {R:Ending->World->Prop} (hden:sh12 c id w R):Calls Tryz.prog 12 #[.pointer c,.int .i64 id] w R:=
 calls_of_form (.seq none .z (.seq none (.seq (some [(21,.b)]) .z (.cond (.seq none .z .z) .z)) (.seq none .z (.seq none .z (.seq none (.draw 1 (.take 0 (.take 1 (.take 2 (.take 6 (.take 7 (.take 8 (.take 3 (.take 4 (.take 9 (.take 10 (.all [(5,(.take 12 (.all [(11,(.all [(13,(.take 14 (.all [(15,.done)])))]))])))])))))))))))) (.seq none .z .z)))))) Tryz.func12 (by kernel_rfl) [.p c,.i .i64 id] (by kernel_rfl) (by kernel_rfl) hden
def sh23 (w:World) (R:Ending->World->Prop):Prop:=
 semK Tryz.prog (Instr.makeMap 80 none) w λv w1=>∃ x:Option Nat,v=(.map x)/\semU Tryz.prog (Instr.mapUpdate 80 (.map x) (.int .u8 ((1:UInt8)).toNat) (.func (.func 45) #[] #[])) w1 λw2=>semU Tryz.prog (Instr.mapUpdate 80 (.map x) (.int .u8 ((2:UInt8)).toNat) (.func (.func 46) #[] #[])) w2 λw3=>semU Tryz.prog (Instr.mapUpdate 80 (.map x) (.int .u8 ((3:UInt8)).toNat) (.func (.func 47) #[] #[])) w3 λw4=>semU Tryz.prog (Instr.mapUpdate 80 (.map x) (.int .u8 ((4:UInt8)).toNat) (.func (.func 48) #[] #[])) w4 λw5=>semU Tryz.prog (Instr.mapUpdate 80 (.map x) (.int .u8 ((5:UInt8)).toNat) (.func (.func 49) #[] #[])) w5 λw6=>semU Tryz.prog (Instr.mapUpdate 80 (.map x) (.int .u8 ((6:UInt8)).toNat) (.func (.func 50) #[] #[])) w6 λw7=>semU Tryz.prog (Instr.mapUpdate 80 (.map x) (.int .u8 ((7:UInt8)).toNat) (.func (.func 51) #[] #[])) w7 λw8=>semU Tryz.prog (Instr.mapUpdate 80 (.map x) (.int .u8 ((8:UInt8)).toNat) (.func (.func 52) #[] #[])) w8 λw9=>semU Tryz.prog (Instr.mapUpdate 80 (.map x) (.int .u8 ((9:UInt8)).toNat) (.func (.func 53) #[] #[])) w9 λw10=>semU Tryz.prog (Instr.mapUpdate 80 (.map x) (.int .u8 ((10:UInt8)).toNat) (.func (.func 54) #[] #[])) w10 λw11=>semU Tryz.prog (Instr.mapUpdate 80 (.map x) (.int .u8 ((11:UInt8)).toNat) (.func (.func 55) #[] #[])) w11 λw12=>semU Tryz.prog (Instr.mapUpdate 80 (.map x) (.int .u8 ((12:UInt8)).toNat) (.func (.func 56) #[] #[])) w12 λw13=>R (.returned (.map x)) w13
theorem call23 {w:World} {R:Ending->World->Prop} (hden:sh23 w R):Calls Tryz.prog 23 #[] w R:=
 calls_of_form (.seq none .z (.seq none .z .z)) Tryz.func23 (by kernel_rfl) [] (by kernel_rfl) (by kernel_rfl) hden
def sh8 (c:Option Addr) (sa:UInt8) (sb sc sd se sf sg:Int) (sh:List UInt8) (si:Bool) (sj:Slc) (w:World) (R:Ending->World->Prop):Prop:=
 semK Tryz.prog (Instr.box 25 (.agg #[.int .u8 sa.toNat,.int .i64 sb,.int .i64 sc,.int .i64 sd,.int .i64 se,.int .i64 sf,.int .i64 sg,.string ⟨sh.toArray⟩,.bool si,.slice sj.a sj.len sj.cap])) w λv w1=>∃ s:Option Addr,v=(.pointer s)/\∃ sx:World->Prop,sx w1.drew/\onSome s λa=>∃ x:UInt8,(∀ w',sx w'->Rd w' (a.add 0) [.int .u8 x.toNat])/\((callK Tryz.prog 23 [] w1.drew (panR R) λv1 w2=>∃ x1:Option Nat,v1=(.map x1)/\(sx w2/\((semK Tryz.prog (Instr.lookup 80 (.map x1) (.int .u8 x.toNat) false) w2 λv2 w3=>∃ x2:Value,v2=x2/\∃ j:List TV->World->Prop,(callK Tryz.prog 17 [.pointer c] w3 (panR R) λv3 w4=>∃ x3:Bool,v3=(.bool x3)/\condK (!x3) (j [.b true] w4) (pureSem Tryz.prog (do eqGuard .eql 79 (.tmp 14) (.const .nilFunc) x2 .nilFunc; binOp .eql 79 x2 .nilFunc) λv4=>∃ x4:Bool,v4=(.bool x4)/\j [.b x4] w4))/\(∀ x5:Bool,∀ w5:World,j [.b x5] w5->condK x5 (R (.returned (.slice none 0 0)) w5) (onSome s λa1=>∃ xa:UInt8,∃ xb xc xd xe xf xg:Int,∃ xh:List UInt8,∃ xi:Bool,∃ xj:Slc,Rd w5 a1 [.int .u8 xa.toNat,.int .i64 xb,.int .i64 xc,.int .i64 xd,.int .i64 xe,.int .i64 xf,.int .i64 xg,.string ⟨xh.toArray⟩,.bool xi,.slice xj.a xj.len xj.cap]/\callFV Tryz.prog x2 [.pointer c,.agg #[.int .u8 xa.toNat,.int .i64 xb,.int .i64 xc,.int .i64 xd,.int .i64 xe,.int .i64 xf,.int .i64 xg,.string ⟨xh.toArray⟩,.bool xi,.slice xj.a xj.len xj.cap]] w5 (panR R) λv5 w6=>∃ x6:Slc,v5=(.slice x6.a x6.len x6.cap)/\R (.returned (.slice x6.a x6.len x6.cap)) w6)))/\True)))/\True)
theorem call8 (c:Option Addr) (sa:UInt8) (sb sc sd se sf sg:Int) (sh:List UInt8) (si:Bool) (sj:Slc) {w:World} {R:Ending->World->Prop} (hden:sh8 c sa sb sc sd se sf sg sh si sj w R):Calls Tryz.prog 8 #[.pointer c,.agg #[.int .u8 sa.toNat,.int .i64 sb,.int .i64 sc,.int .i64 sd,.int .i64 se,.int .i64 sf,.int .i64 sg,.string ⟨sh.toArray⟩,.bool si,.slice sj.a sj.len sj.cap]] w R:=
 calls_of_form (.seq none .z (.seq none (.draw 1 (.take 1 (.take 2 (.all [(0,(.all [(3,(.take 4 .done))]))])))) (.seq none (.seq (some [(16,.b)]) .z (.cond (.seq none .z .z) .z)) (.seq none .z .z)))) Tryz.func8 (by kernel_rfl) [.p c,.agg [.u8 sa,.i .i64 sb,.i .i64 sc,.i .i64 sd,.i .i64 se,.i .i64 sf,.i .i64 sg,.s sh,.b si,.sl sj]] (by kernel_rfl) (by kernel_rfl) hden
def sh4 (l:Slc) (most:Int) (w:World) (R:Ending->World->Prop):Prop:=
 ∃ (inv:List TV->World->Prop) (mu:List TV->World->Nat),inv [.i .i64 (l.len:Int),.i .i64 (0:Int)] w/\(∀ n i:Int,∀ w1:World,inv [.i .i64 n,.i .i64 i] w1->∃ j:List TV->World->Prop,(condK (decide (i<(l.len:Int))) (j [.b (decide (n<=most))] w1) (j [.b false] w1))/\(∀ x:Bool,∀ w2:World,j [.b x] w2->condK x (((0<=i/\i<(l.len:Nat))/\onSome l.a λa=>((0<=i/\i<(l.len:Nat))/\onSome l.a λa1=>∃ x1:List UInt8,Rd w2.drew ((a.add (i.toNat*10)).add 7) [.string ⟨x1.toArray⟩]/\∃ x2:Slc,Rd w2.drew ((a1.add (i.toNat*10)).add 9) [.slice x2.a x2.len x2.cap]/\((8:Int)≠0/\(inv [.i .i64 (IntKind.i64.wrap (n+(IntKind.i64.wrap (Int.tdiv (IntKind.i64.wrap ((x1.length:Int)+(x2.len:Int))) (8:Int))))),.i .i64 (IntKind.i64.wrap (i+(1:Int)))] w2.drew/\mu [.i .i64 (IntKind.i64.wrap (n+(IntKind.i64.wrap (Int.tdiv (IntKind.i64.wrap ((x1.length:Int)+(x2.len:Int))) (8:Int))))),.i .i64 (IntKind.i64.wrap (i+(1:Int)))] w2.drew<mu [.i .i64 n,.i .i64 i] w1))))) (R (.returned (.int .i64 n)) w2)))
theorem call4 (l:Slc) (most:Int) {w:World} {R:Ending->World->Prop} (hden:sh4 l most w R):Calls Tryz.prog 4 #[.slice l.a l.len l.cap,.int .i64 most] w R:=
 calls_of_form (.seq none .z (.seq none .z (.seq none (.seq none .z (.block none (.loop [(5,(.i .i64)),(6,(.i .i64))] (.seq none (.seq (some [(17,.b)]) .z (.cond .z .z)) (.seq none (.block none (.draw 2 (.take 0 (.take 1 (.take 2 (.take 3 (.take 4 (.take 7 (.take 8 (.take 9 (.take 10 (.take 5 (.take 6 (.take 11 (.take 12 (.take 13 (.take 14 (.take 15 (.take 16 .done))))))))))))))))))) .z))))) (.seq none .z .z)))) Tryz.func4 (by kernel_rfl) [.sl l,.i .i64 most] (by kernel_rfl) (by kernel_rfl) hden
def sh3 (sa:UInt8) (sb sc sd se sf sg:Int) (sh:List UInt8) (si:Bool) (sj:Slc) (w:World) (R:Ending->World->Prop):Prop:=
 semK Tryz.prog (Instr.box 25 (.agg #[.int .u8 sa.toNat,.int .i64 sb,.int .i64 sc,.int .i64 sd,.int .i64 se,.int .i64 sf,.int .i64 sg,.string ⟨sh.toArray⟩,.bool si,.slice sj.a sj.len sj.cap])) w λv w1=>∃ s:Option Addr,v=(.pointer s)/\onSome s λa=>∃ xa:UInt8,∃ xb xc xd xe xf xg:Int,∃ xh:List UInt8,∃ xi:Bool,∃ xj:Slc,Rd w1 a [.int .u8 xa.toNat,.int .i64 xb,.int .i64 xc,.int .i64 xd,.int .i64 xe,.int .i64 xf,.int .i64 xg,.string ⟨xh.toArray⟩,.bool xi,.slice xj.a xj.len xj.cap]/\semK Tryz.prog (Instr.buildSlice 27 1 #[(0,(.agg #[.int .u8 xa.toNat,.int .i64 xb,.int .i64 xc,.int .i64 xd,.int .i64 xe,.int .i64 xf,.int .i64 xg,.string ⟨xh.toArray⟩,.bool xi,.slice xj.a xj.len xj.cap]))]) w1 λv1 w2=>∃ x:Slc,v1=(.slice x.a x.len x.cap)/\callK Tryz.prog 4 [.slice x.a x.len x.cap,.int .i64 (1000:Int)] w2 (panR R) λv2 w3=>∃ x1:Int,v2=(.int .i64 x1)/\condK (decide (x1 > (1000:Int))) (callK Tryz.prog 5 [] w3 (panR R) λv3 w4=>∃ x2:Bool,v3=(.bool x2)/\R (.returned (.bool x2)) w4) (semK Tryz.prog (Instr.box 38 (.agg #[.pointer none,.pointer none,.slice none 0 0,.map none,.slice none 0 0])) w3 λv4 w5=>∃ x3:Option Addr,v4=(.pointer x3)/\semK Tryz.prog (Instr.buildSlice 39 2 #[(0,(.pointer none)),(1,(.pointer x3))]) w5 λv5 w6=>∃ x4:Slc,v5=(.slice x4.a x4.len x4.cap)/\∃ (inv:List TV->World->Prop) (mu:List TV->World->Nat),inv [.i .i64 (0:Int)] w6/\(∀ i:Int,∀ w7:World,inv [.i .i64 i] w7->condK (decide (i<(2:Int))) (∃ j:List TV->World->Prop,(∃ sx:World->Prop,sx w7.drew/\((0<=i/\i<(x4.len:Nat))/\onSome x4.a λa1=>onSome s λa2=>∃ x5:Option Addr,(∀ w',sx w'->Rd w' (a1.add (i.toNat*1)) [.pointer x5])/\∃ x6:Int,(∀ w',sx w'->Rd w' (a2.add 1) [.int .i64 x6])/\((callK Tryz.prog 6 [.pointer x5,.int .i64 x6] w7.drew (panR R) λv6 w8=>∃ xaa xab xac xad:Slc,∃ xb1:Bool,v6=(.tuple #[.agg #[.slice xaa.a xaa.len xaa.cap,.slice xab.a xab.len xab.cap,.slice xac.a xac.len xac.cap,.slice xad.a xad.len xad.cap],.bool xb1])/\((semK Tryz.prog (Instr.alloc 45 true (.tuple #[])) w8 λv7 w9=>∃ h:Option Addr,v7=(.pointer h)/\(sx w9/\((onSome h λa3=>semU Tryz.prog (storeVar 45 a3 (.agg #[.slice xaa.a xaa.len xaa.cap,.slice xab.a xab.len xab.cap,.slice xac.a xac.len xac.cap,.slice xad.a xad.len xad.cap])) w9 λw10=>j [.p h,.b xb1] w10)/\True)))/\True))/\(semK Tryz.prog (Instr.alloc 45 true (.tuple #[])) w7.drew λv8 w11=>∃ h1:Option Addr,v8=(.pointer h1)/\(sx w11/\((callK Tryz.prog 6 [.pointer x5,.int .i64 x6] w11 (panR R) λv9 w12=>∃ xaa1 xab1 xac1 xad1:Slc,∃ xb2:Bool,v9=(.tuple #[.agg #[.slice xaa1.a xaa1.len xaa1.cap,.slice xab1.a xab1.len xab1.cap,.slice xac1.a xac1.len xac1.cap,.slice xad1.a xad1.len xad1.cap],.bool xb2])/\((onSome h1 λa4=>semU Tryz.prog (storeVar 45 a4 (.agg #[.slice xaa1.a xaa1.len xaa1.cap,.slice xab1.a xab1.len xab1.cap,.slice xac1.a xac1.len xac1.cap,.slice xad1.a xad1.len xad1.cap])) w12 λw13=>j [.p h1,.b xb2] w13)/\True))/\True)))/\True)))/\(∀ h2:Option Addr,∀ up:Bool,∀ w14:World,j [.p h2,.b up] w14->∃ sx1:World->Prop,sx1 w14.drew/\condK up ((((sx1 w14.drew/\(((sx1 w14.drew/\(((sx1 w14.drew/\(((sx1 w14.drew/\(((sx1 w14.drew/\(((sx1 w14.drew/\R (.returned (.bool false)) w14.drew))/\True)))/\True)))/\True)))/\True)))/\True)))/\True)) (onSome h2 λa5=>∃ xa1 xb3 xc1 xd1:Slc,(∀ w',sx1 w'->Rd w' a5 [.slice xa1.a xa1.len xa1.cap,.slice xb3.a xb3.len xb3.cap,.slice xc1.a xc1.len xc1.cap,.slice xd1.a xd1.len xd1.cap])/\((callK Tryz.prog 7 [.agg #[.slice xa1.a xa1.len xa1.cap,.slice xb3.a xb3.len xb3.cap,.slice xc1.a xc1.len xc1.cap,.slice xd1.a xd1.len xd1.cap],.agg #[.slice none 0 0,.slice none 0 0,.slice none 0 0,.slice none 0 0]] w14.drew (panR R) λv10 w15=>∃ x7:Bool,v10=(.bool x7)/\(sx1 w15/\condK (!x7) ((((sx1 w15/\(((sx1 w15/\(((sx1 w15/\(((sx1 w15/\(((sx1 w15/\R (.returned (.bool false)) w15))/\True)))/\True)))/\True)))/\True)))/\True)) (((0<=i/\i<(x4.len:Nat))/\onSome x4.a λa6=>∃ x8:Option Addr,(∀ w',sx1 w'->Rd w' (a6.add (i.toNat*1)) [.pointer x8])/\onSome s λa7=>∃ xa2:UInt8,∃ xb4 xc2 xd2 xe1 xf1 xg1:Int,∃ xh1:List UInt8,∃ xi1:Bool,∃ xj1:Slc,(∀ w',sx1 w'->Rd w' a7 [.int .u8 xa2.toNat,.int .i64 xb4,.int .i64 xc2,.int .i64 xd2,.int .i64 xe1,.int .i64 xf1,.int .i64 xg1,.string ⟨xh1.toArray⟩,.bool xi1,.slice xj1.a xj1.len xj1.cap])/\((callK Tryz.prog 8 [.pointer x8,.agg #[.int .u8 xa2.toNat,.int .i64 xb4,.int .i64 xc2,.int .i64 xd2,.int .i64 xe1,.int .i64 xf1,.int .i64 xg1,.string ⟨xh1.toArray⟩,.bool xi1,.slice xj1.a xj1.len xj1.cap]] w15 (panR R) λv11 w16=>∃ x9:Slc,v11=(.slice x9.a x9.len x9.cap)/\(sx1 w16/\condK ((x9.len:Int) != (0:Int)) ((((sx1 w16/\(((sx1 w16/\(((sx1 w16/\(((sx1 w16/\R (.returned (.bool false)) w16))/\True)))/\True)))/\True)))/\True)) (((0<=i/\i<(x4.len:Nat))/\onSome x4.a λa8=>∃ x10:Option Addr,(∀ w',sx1 w'->Rd w' (a8.add (i.toNat*1)) [.pointer x10])/\((callK Tryz.prog 9 [.pointer x10] w16 (panR R) λv12 w17=>∃ x11:Slc,v12=(.slice x11.a x11.len x11.cap)/\(sx1 w17/\condK ((x11.len:Int) != (0:Int)) ((((sx1 w17/\(((sx1 w17/\(((sx1 w17/\R (.returned (.bool false)) w17))/\True)))/\True)))/\True)) (((0<=i/\i<(x4.len:Nat))/\onSome x4.a λa9=>∃ x12:Option Addr,(∀ w',sx1 w'->Rd w' (a9.add (i.toNat*1)) [.pointer x12])/\((callK Tryz.prog 10 [.pointer x12] w17 (panR R) λv13 w18=>∃ x13:Slc,v13=(.slice x13.a x13.len x13.cap)/\(sx1 w18/\condK ((x13.len:Int) != (0:Int)) ((((sx1 w18/\(((sx1 w18/\R (.returned (.bool false)) w18))/\True)))/\True)) (((0<=i/\i<(x4.len:Nat))/\onSome x4.a λa10=>onSome s λa11=>∃ x14:Option Addr,(∀ w',sx1 w'->Rd w' (a10.add (i.toNat*1)) [.pointer x14])/\∃ x15:Int,(∀ w',sx1 w'->Rd w' (a11.add 1) [.int .i64 x15])/\((callK Tryz.prog 12 [.pointer x14,.int .i64 x15] w18 (panR R) λv14 w19=>∃ xa3:Int,∃ xb5 xc3 xd3:Slc,v14=(.agg #[.int .i64 xa3,.slice xb5.a xb5.len xb5.cap,.slice xc3.a xc3.len xc3.cap,.slice xd3.a xd3.len xd3.cap])/\(sx1 w19/\((callK Tryz.prog 11 [.agg #[.int .i64 xa3,.slice xb5.a xb5.len xb5.cap,.slice xc3.a xc3.len xc3.cap,.slice xd3.a xd3.len xd3.cap],.agg #[.int .i64 (0:Int),.slice none 0 0,.slice none 0 0,.slice none 0 0]] w19 (panR R) λv15 w20=>∃ x16:Bool,v15=(.bool x16)/\(sx1 w20/\condK (!x16) (R (.returned (.bool false)) w20) ((inv [.i .i64 (IntKind.i64.wrap (i+(1:Int)))] w20/\mu [.i .i64 (IntKind.i64.wrap (i+(1:Int)))] w20<mu [.i .i64 i] w7))))/\True)))/\True)))))/\True)))))/\True)))))/\True)))))/\True)))) (callK Tryz.prog 5 [] w7 (panR R) λv16 w21=>∃ x17:Bool,v16=(.bool x17)/\R (.returned (.bool x17)) w21)))
theorem call3 (sa:UInt8) (sb sc sd se sf sg:Int) (sh:List UInt8) (si:Bool) (sj:Slc) {w:World} {R:Ending->World->Prop} (hden:sh3 sa sb sc sd se sf sg sh si sj w R):Calls Tryz.prog 3 #[.agg #[.int .u8 sa.toNat,.int .i64 sb,.int .i64 sc,.int .i64 sd,.int .i64 se,.int .i64 sf,.int .i64 sg,.string ⟨sh.toArray⟩,.bool si,.slice sj.a sj.len sj.cap]] w R:=
 calls_of_form (.seq none .z (.seq none (.seq none .z (.cond (.seq none .z .z) .z)) (.seq none .z (.seq none (.seq none .z (.block none (.loop [(4,(.i .i64))] (.seq none (.seq none .z (.cond .z .z)) (.seq none (.block none (.seq (some [(5,.p),(6,.b)]) (.draw 1 (.take 0 (.take 1 (.take 2 (.take 4 (.take 3 (.take 5 (.all [(6,(.take 7 (.take 8 (.take 9 (.all [(10,(.all [(11,(.take 12 .done))]))]))))),(10,(.all [(6,(.take 7 (.take 8 (.take 9 (.all [(11,(.take 12 .done))])))))]))])))))))) (.seq none (.draw 1 (.take 0 (.take 1 (.take 3 (.take 2 (.all [(4,(.take 5 (.take 6 (.take 7 (.take 8 (.take 9 (.take 10 (.take 11 (.take 12 (.all [(13,(.take 14 (.take 15 (.take 16 (.take 17 (.take 18 (.take 19 (.take 20 (.take 21 (.all [(22,(.take 23 (.take 24 (.take 25 (.take 26 (.take 27 (.take 28 (.take 29 (.take 30 (.all [(31,(.take 32 (.take 33 (.take 34 (.take 35 (.take 36 (.take 37 (.take 38 (.take 40 (.take 43 (.take 39 (.take 41 (.all [(42,(.all [(44,(.take 45 (.take 46 .done)))]))])))))))))))))]))))))))))]))))))))))]))))))))))])))))) (.cond (.seq none .z .z) .z)))) .z))))) (.seq none .z .z))))) Tryz.func3 (by kernel_rfl) [.agg [.u8 sa,.i .i64 sb,.i .i64 sc,.i .i64 sd,.i .i64 se,.i .i64 sf,.i .i64 sg,.s sh,.b si,.sl sj]] (by kernel_rfl) (by kernel_rfl) hden
end Go.Proofs.YtmgcoepbccgjfaaGreatDoor
end
section
namespace Go.Proofs.YtmgcoepbccgjfaaGreatDoor
open Go Go.Sh Go.MapKept
def hd0:List Value:=[.slice none 0 0,.slice none 0 0,.slice none 0 0,.slice none 0 0]
def cf0:List Value:=[.int .i64 0,.slice none 0 0,.slice none 0 0,.slice none 0 0]
def cl0:List Value:=[.pointer none,.pointer none,.slice none 0 0,.map none,.slice none 0 0]
def NoOf (z:List Value) (w:World) (c:Option Addr):Prop:=c=none\/∃ b T,c=some ⟨b,0,none⟩/\Blk w b z T
theorem NoOf.no {z:List Value} {w w':World} {c:Option Addr} (h:NoOf z w c) (hm:Mod NoB w w'):NoOf z w' c:=by
 rcases h with h | ⟨b,T,h1,h2⟩
 ·exact .inl h
 ·exact .inr ⟨b,T,h1,h2.no hm⟩
theorem iHeld0 : ∃ i,Tryz.prog.info? 45=some i/\i.zero=some (.agg hd0.toArray)/\i.size=4/\i.bytes=96:=info_of (by kernel_rfl) (by kernel_rfl) (by kernel_rfl)
theorem hd0_one : ∀ u∈hd0,u.oneCell'=true:=by intro u hu; simp [hd0] at hu; subst hu; rfl
theorem iConf0 : ∃ i,Tryz.prog.info? 58=some i/\i.zero=some (.agg cf0.toArray)/\i.size=4/\i.bytes=80:=info_of (by kernel_rfl) (by kernel_rfl) (by kernel_rfl)
theorem cf0_one : ∀ u∈cf0,u.oneCell'=true:=by intro u hu; simp [cf0] at hu; rcases hu with rfl | rfl <;> rfl
theorem uPC:Tryz.prog.underlying 29=some (.pointer 38):=by kernel_rfl
abbrev TWay:TypeId:=79
theorem iWay : ∃ i,Tryz.prog.info? TWay=some i/\i.zero=some .nilFunc/\i.size=1/\i.bytes=8:=info_of (by kernel_rfl) (by kernel_rfl) (by kernel_rfl)
theorem uWays:Tryz.prog.underlying 80=some (.map 22 TWay):=by kernel_rfl
theorem uKindS:Tryz.prog.underlying 22=some (.int .u8):=by kernel_rfl
theorem key8 (k:UInt8):IsKey (.int .u8) (.int .u8 k.toNat):=by first | exact ⟨_,rfl⟩ | (simp [IsKey]) | trivial
section
variable {w:World} {c:Option Addr}
theorem c_knownN (hc:NoOf cl0 w c):Calls Tryz.prog 17 #[.pointer c] w (Ret λv w'=>v = .bool false/\w'=w):=by
 refine call17 _ ?_
 unfold sh17
 refine ps_neq_ptr uPC ⟨_,rfl,condK_i (λh=>?_) λh=>⟨rfl,rfl⟩⟩
 rcases hc with rfl | ⟨b,T,rfl,hb⟩
 ·simp at h
 ·exact ⟨none,hb.rd1 (o:=3) rfl,ps_neq_map (k:=3) (e:=95) (by kernel_rfl) ⟨_,rfl,rfl,rfl⟩⟩
theorem c_WroteN (hc:NoOf cl0 w c):Calls Tryz.prog 9 #[.pointer c] w (Ret λv w'=>v = .slice none 0 0/\w'=w):=by
 refine call9 _ ?_
 unfold sh9
 refine callK_ret (c_knownN hc) ?_
 rintro v w1 ⟨rfl,rfl⟩
 exact ⟨_,rfl,condK_i (λ_=>⟨rfl,rfl⟩) λh=>by cases h⟩
theorem c_IssuedN (hc:NoOf cl0 w c):Calls Tryz.prog 10 #[.pointer c] w (Ret λv w'=>v = .slice none 0 0/\w'=w):=by
 refine call10 _ ?_
 unfold sh10
 refine callK_ret (c_knownN hc) ?_
 rintro v w1 ⟨rfl,rfl⟩
 exact ⟨_,rfl,condK_i (λ_=>⟨rfl,rfl⟩) λh=>by cases h⟩
theorem c_HeldN {n:Int} (hc:NoOf cl0 w c):Calls Tryz.prog 6 #[.pointer c,.int .i64 n] w (Ret λv w'=>v = .tuple #[.agg hd0.toArray,.bool false]/\Mod NoB w w'):=by
 obtain ⟨i,r1,r2,r3,r4⟩:=iHeld0
 refine call6 _ _ ?_
 unfold sh6
 refine sem_alloc (l:=hd0) r1 r2 rfl λp w1 hN1 hb1=>⟨_,rfl,?_⟩
 have e1:=hN1.at_
 refine ⟨λl w'=>match l with | [.b t]=>t=true/\w'=w1 | _=>False,callK_ret (c_knownN (hc.no hN1.mod)) ?_,?_⟩
 ·rintro v w2 ⟨rfl,rfl⟩
  exact ⟨_,rfl,condK_i (λ_=>⟨rfl,rfl⟩) λh=>by cases h⟩
 rintro t w2 ⟨rfl,rfl⟩
 refine condK_i (λ_=>?_) λh=>by cases h
 refine semU_store (o:=0) (vs:=hd0) (by kernel_rfl) (by kernel_rfl) rfl hb1 (by simp [hd0]) hd0_one λw4 ht4 hb4=>?_
 have hb4:Blk w4 p hd0 _:=hb4
 exact ⟨⟨none,0,0⟩,⟨none,0,0⟩,⟨none,0,0⟩,⟨none,0,0⟩,hb4.rd λj v hj=>by simpa [hd0] using hj,rfl,hN1.mod.fresh ht4.mod λz e=>by (have:z=p:=e); omega⟩
theorem c_ConfigN {n:Int} (hc:NoOf cl0 w c):Calls Tryz.prog 12 #[.pointer c,.int .i64 n] w (Ret λv w'=>v = .agg cf0.toArray/\Mod NoB w w'):=by
 obtain ⟨i,r1,r2,r3,r4⟩:=iConf0
 refine call12 _ _ ?_
 unfold sh12
 refine sem_alloc (l:=cf0) r1 r2 rfl λp w1 hN1 hb1=>⟨_,rfl,?_⟩
 have e1:=hN1.at_
 refine ⟨λl w'=>match l with | [.b t]=>t=true/\w'=w1 | _=>False,callK_ret (c_knownN (hc.no hN1.mod)) ?_,?_⟩
 ·rintro v w2 ⟨rfl,rfl⟩
  exact ⟨_,rfl,condK_i (λ_=>⟨rfl,rfl⟩) λh=>by cases h⟩
 rintro t w2 ⟨rfl,rfl⟩
 refine condK_i (λ_=>?_) λh=>by cases h
 refine semU_store (o:=0) (vs:=cf0) (by kernel_rfl) (by kernel_rfl) rfl hb1 (by simp [cf0]) cf0_one λw4 ht4 hb4=>?_
 have hb4:Blk w4 p cf0 _:=hb4
 exact ⟨0,⟨none,0,0⟩,⟨none,0,0⟩,⟨none,0,0⟩,hb4.rd λj v hj=>by simpa [cf0] using hj,rfl,hN1.mod.fresh ht4.mod λz e=>by (have:z=p:=e); omega⟩
theorem c_waysN:Calls Tryz.prog 23 #[] w (Ret λv w'=>∃ m es cl,v = .map (some m)/\MapB (.int .u8) w' m es cl/\Mod NoB w w'):=by
 refine call23 ?_
 unfold sh23
 refine sem_makeMap (d:=.int .u8) λm w0 hat hsz hM0 hm0=>⟨some m,rfl,?_⟩
 refine semU_mapPush uWays uKindS hM0 (key8 _) (by intro e he; simp at he; try (cases he)) λw1 hM1 hmm1 hs1=>?_
 refine semU_mapPush uWays uKindS hM1 (key8 _) (by intro e he; simp at he; try ((subst he; simp))) λw2 hM2 hmm2 hs2=>?_
 refine semU_mapPush uWays uKindS hM2 (key8 _) (by intro e he; simp at he; try (rcases he with rfl | rfl <;> simp)) λw3 hM3 hmm3 hs3=>?_
 refine semU_mapPush uWays uKindS hM3 (key8 _) (by intro e he; simp at he; try (rcases he with rfl | rfl | rfl <;> simp)) λw4 hM4 hmm4 hs4=>?_
 refine semU_mapPush uWays uKindS hM4 (key8 _) (by intro e he; simp at he; try (rcases he with rfl | rfl | rfl | rfl <;> simp)) λw5 hM5 hmm5 hs5=>?_
 refine semU_mapPush uWays uKindS hM5 (key8 _) (by intro e he; simp at he; try (rcases he with rfl | rfl | rfl | rfl | rfl <;> simp)) λw6 hM6 hmm6 hs6=>?_
 refine semU_mapPush uWays uKindS hM6 (key8 _) (by intro e he; simp at he; try (rcases he with rfl | rfl | rfl | rfl | rfl | rfl <;> simp)) λw7 hM7 hmm7 hs7=>?_
 refine semU_mapPush uWays uKindS hM7 (key8 _) (by intro e he; simp at he; try (rcases he with rfl | rfl | rfl | rfl | rfl | rfl | rfl <;> simp)) λw8 hM8 hmm8 hs8=>?_
 refine semU_mapPush uWays uKindS hM8 (key8 _) (by intro e he; simp at he; try (rcases he with rfl | rfl | rfl | rfl | rfl | rfl | rfl | rfl <;> simp)) λw9 hM9 hmm9 hs9=>?_
 refine semU_mapPush uWays uKindS hM9 (key8 _) (by intro e he; simp at he; try (rcases he with rfl | rfl | rfl | rfl | rfl | rfl | rfl | rfl | rfl <;> simp)) λw10 hM10 hmm10 hs10=>?_
 refine semU_mapPush uWays uKindS hM10 (key8 _) (by intro e he; simp at he; try (rcases he with rfl | rfl | rfl | rfl | rfl | rfl | rfl | rfl | rfl | rfl <;> simp)) λw11 hM11 hmm11 hs11=>?_
 refine semU_mapPush uWays uKindS hM11 (key8 _) (by intro e he; simp at he; try (rcases he with rfl | rfl | rfl | rfl | rfl | rfl | rfl | rfl | rfl | rfl | rfl <;> simp)) λw12 hM12 hmm12 hs12=>?_
 exact ⟨m,_,_,rfl,hM12,((((((((((((hm0.fresh hmm1 λz e=>by (have:z=m:=e); omega).fresh hmm2 λz e=>by (have:z=m:=e); omega).fresh hmm3 λz e=>by (have:z=m:=e); omega).fresh hmm4 λz e=>by (have:z=m:=e); omega).fresh hmm5 λz e=>by (have:z=m:=e); omega).fresh hmm6 λz e=>by (have:z=m:=e); omega).fresh hmm7 λz e=>by (have:z=m:=e); omega).fresh hmm8 λz e=>by (have:z=m:=e); omega).fresh hmm9 λz e=>by (have:z=m:=e); omega).fresh hmm10 λz e=>by (have:z=m:=e); omega).fresh hmm11 λz e=>by (have:z=m:=e); omega).fresh hmm12 λz e=>by (have:z=m:=e); omega)⟩
theorem c_DoN {a:UInt8} {b1 b2 b3 b4 b5 b6:Int} {k:List UInt8} {g:Bool} {s:Slc} (hc:NoOf cl0 w c) :
 Calls Tryz.prog 8 #[.pointer c,.agg #[.int .u8 a.toNat,.int .i64 b1,.int .i64 b2,.int .i64 b3,.int .i64 b4,.int .i64 b5,.int .i64 b6,.string ⟨k.toArray⟩,.bool g,.slice s.a s.len s.cap]] w (Ret λv w'=>v = .slice none 0 0/\Mod NoB w w'):=by
 refine call8 _ _ _ _ _ _ _ _ _ _ _ ?_
 unfold sh8
 obtain ⟨iw,q1,q2,q3,q4⟩:=iWay
 refine sem_box (l:=[.int .u8 a.toNat,.int .i64 b1,.int .i64 b2,.int .i64 b3,.int .i64 b4,.int .i64 b5,.int .i64 b6,.string ⟨k.toArray⟩,.bool g,s.val]) rfl λq w1 hN1 hb1=>⟨_,rfl,?_⟩
 refine ⟨λw'=>Mod NoB w1 w',Mod.drew _ _,a,λw' hm=>(hb1.no hm).rd1 (o:=0) rfl,callK_ret c_waysN ?_,trivial⟩
 rintro v w2 ⟨m,es,cl,rfl,hM,hm2⟩
 have hm12:Mod NoB w1 w2:=(Mod.drew _ _).tr hm2
 have hm02:=hN1.mod.tr hm12
 have hK : ∀ x2:Value,∃ x:Value,x2=x/\∃ j:List TV->World->Prop,(callK Tryz.prog 17 [.pointer c] w2 (panR (Ret λv w'=>v = .slice none 0 0/\Mod NoB w w')) λv3 w4=>∃ x3:Bool,v3=(.bool x3)/\condK (!x3) (j [.b true] w4) (pureSem Tryz.prog (do eqGuard .eql TWay (.tmp 14) (.const .nilFunc) x .nilFunc; binOp .eql TWay x .nilFunc) λv4=>∃ x4:Bool,v4=(.bool x4)/\j [.b x4] w4))/\(∀ x5:Bool,∀ w5:World,j [.b x5] w5->x5=true/\w5=w2):=λx2=>by
  refine ⟨x2,rfl,λl w'=>match l with | [.b t]=>t=true/\w'=w2 | _=>False,callK_ret (c_knownN (hc.no hm02)) ?_,λt w5 h=>h⟩
  rintro v w4 ⟨rfl,rfl⟩
  exact ⟨_,rfl,condK_i (λ_=>⟨rfl,rfl⟩) λh=>by cases h⟩
 have fin : ∀ x2:Value,∃ x:Value,x2=x/\∃ j:List TV->World->Prop,(callK Tryz.prog 17 [.pointer c] w2 (panR (Ret λv w'=>v = .slice none 0 0/\Mod NoB w w')) λv3 w4=>∃ x3:Bool,v3=(.bool x3)/\condK (!x3) (j [.b true] w4) (pureSem Tryz.prog (do eqGuard .eql TWay (.tmp 14) (.const .nilFunc) x .nilFunc; binOp .eql TWay x .nilFunc) λv4=>∃ x4:Bool,v4=(.bool x4)/\j [.b x4] w4))/\(∀ x5:Bool,∀ w5:World,j [.b x5] w5->x5=true/\w5=w2):=hK
 refine ⟨some m,rfl,hm12,sem_lookup uWays uKindS q1 q2 hM (key8 _) (λe _ _=>?_) (λ_=>?_),trivial⟩
 all_goals
  obtain ⟨x,hx,j,h1,h2⟩:=hK _
  refine ⟨x,hx,j,h1,λx5 w5 h5=>?_⟩
  obtain ⟨rfl,rfl⟩:=h2 x5 w5 h5
  exact condK_i (λ_=>⟨rfl,hm02⟩) λh=>by cases h
theorem c_StepsOf {a:UInt8} {b1 b2 b3 b4 b5 b6:Int} {k:List UInt8} {g:Bool} {s x:Slc} (hx : ∃ b T,x=⟨some ⟨b,0,none⟩,1,1⟩/\Blk w b [.int .u8 a.toNat,.int .i64 b1,.int .i64 b2,.int .i64 b3,.int .i64 b4,.int .i64 b5,.int .i64 b6,.string ⟨k.toArray⟩,.bool g,s.val] T) :
 Calls Tryz.prog 4 #[.slice x.a x.len x.cap,.int .i64 1000] w (Ret λv w'=>(∃ n:Int,v = .int .i64 n)/\Mod NoB w w'):=by
 refine call4 _ _ ?_
 unfold sh4
 obtain ⟨b,T,rfl,hb⟩:=hx
 refine ⟨λl w'=>match l with | [.i _ n,.i _ z]=>∃ j:Nat,z=j/\j<=1/\Mod NoB w w' | _=>False,λl _=>match l with | [.i _ _,.i _ z]=>(1 - z).toNat | _=>0,⟨0,rfl,by omega,Mod.refl _ _⟩,?_⟩
 rintro n z w1 ⟨j,rfl,hj,hm⟩
 refine ⟨λl w'=>match l with | [.b t]=>w'=w1/\(t=true->j<1) | _=>False,condK_i (λh=>⟨rfl,λ_=>by simp at h; omega⟩) λ_=>⟨rfl,λh=>by cases h⟩,?_⟩
 rintro t w2 ⟨rfl,ht⟩
 refine condK_i (λh=>?_) λ_=>⟨⟨_,rfl⟩,hm⟩
 have hj1:=ht h
 obtain rfl:j=0:=by omega
 have hbd:=(hb.no hm).no (Mod.drew NoB w2)
 refine ⟨⟨by omega,by show (0:Int)<((1:Nat):Int); omega⟩,⟨by omega,by show (0:Int)<((1:Nat):Int); omega⟩,k,hbd.rd1 (o:=7) rfl,s,hbd.rd1 (o:=9) rfl,by decide,⟨1,rfl,by omega,hm.tr (Mod.drew _ _)⟩,?_⟩
 show (1 - IntKind.i64.wrap ((0:Int)+1)).toNat<(1 - (0:Int)).toNat
 decide
end
noncomputable def zheld:X.XV:=.agg [.sl none 0 0,.sl none 0 0,.sl none 0 0,.sl none 0 0]
noncomputable def zconf:X.XV:=.agg [.int .i64 0,.sl none 0 0,.sl none 0 0,.sl none 0 0]
theorem x_held0:resV (runA 7 [zheld,zheld] ⟨.lf,0⟩)=some (.bool true):=by kernel_rfl
theorem x_conf0:resV (runA 11 [zconf,zconf] ⟨.lf,0⟩)=some (.bool true):=by kernel_rfl
theorem c_held0 {w:World} (hw:GS w):Calls Tryz.prog 7 #[.agg hd0.toArray,.agg hd0.toArray] w (Ret λv w'=>v = .bool true/\Mod NoB w w'):=by
 obtain ⟨h',e1⟩:=resV_ex x_held0
 have hq:=X.quiet_dry ((X.xcalls_ok mixed dF_ok nA_ok 60).c _ _ _ _ _ e1) (λ_=>rfl) (λ_=>rfl) ⟨.lf,0⟩
 have hz:X.XR (λ_=>none) zheld (.agg hd0.toArray):=by
  simp only [zheld,X.XR]
  exact ⟨hd0,⟨_,_,rfl,rfl,_,_,rfl,rfl,_,_,rfl,rfl,_,_,rfl,rfl,rfl⟩,rfl⟩
 refine Calls.mono (c_q hq (λw' hm=>hw.no hm) (vs:=[.agg hd0.toArray,.agg hd0.toArray]) ⟨_,_,rfl,hz,_,_,rfl,hz,rfl⟩) λe w' ⟨v,h1,h2,h3⟩=>?_
 simp only [X.XR] at h2
 subst h1 h2
 exact ⟨rfl,h3⟩
theorem c_conf0 {w:World} (hw:GS w):Calls Tryz.prog 11 #[.agg cf0.toArray,.agg cf0.toArray] w (Ret λv w'=>v = .bool true/\Mod NoB w w'):=by
 obtain ⟨h',e1⟩:=resV_ex x_conf0
 have hq:=X.quiet_dry ((X.xcalls_ok mixed dF_ok nA_ok 60).c _ _ _ _ _ e1) (λ_=>rfl) (λ_=>rfl) ⟨.lf,0⟩
 have hz:X.XR (λ_=>none) zconf (.agg cf0.toArray):=by
  simp only [zconf,X.XR]
  exact ⟨cf0,⟨_,_,rfl,rfl,_,_,rfl,rfl,_,_,rfl,rfl,_,_,rfl,rfl,rfl⟩,rfl⟩
 refine Calls.mono (c_q hq (λw' hm=>hw.no hm) (vs:=[.agg cf0.toArray,.agg cf0.toArray]) ⟨_,_,rfl,hz,_,_,rfl,hz,rfl⟩) λe w' ⟨v,h1,h2,h3⟩=>?_
 simp only [X.XR] at h2
 subst h1 h2
 exact ⟨rfl,h3⟩
end Go.Proofs.YtmgcoepbccgjfaaGreatDoor
end
section
namespace Go.X
open Go Go.Sh
noncomputable def mapL {α β:Type} (f:α->β) (l:List α):List β:=List.rec (motive:=λ_=>List β) [] (λa _ ih=>f a :: ih) l
theorem mapL_eq {α β:Type} (f:α->β) : ∀ l:List α,mapL f l=l.map f
 | []=>rfl
 | a :: l=>by show f a :: mapL f l=_; rw [mapL_eq f l]; rfl
noncomputable def allL {α β:Type} (f:α->Option (List β)) (l:List α):Option (List β):=List.rec (motive:=λ_=>Option (List β)) (some []) (λa _ ih=>onO (f a) λx=>onO ih λy=>some (app x y)) l
theorem allL_some {α β:Type} {f:α->Option (List β)} : ∀ {l:List α} {L:List β},allL f l=some L->∀ a∈l,∃ x,f a=some x/\∀ b∈x,b∈L
 | [],_,_,a,h=>by cases h
 | c :: l,L,hr,a,h=>by
   have hr:(onO (f c) λx=>onO (allL f l) λy=>some (app x y))=some L:=hr
   obtain ⟨x,h1,hr⟩:=onO_some hr
   obtain ⟨y,h2,hr⟩:=onO_some hr
   cases hr
   rw [app_eq]
   rcases List.mem_cons.1 h with rfl | h
   ·exact ⟨x,h1,λb hb=>List.mem_append_left _ hb⟩
   ·obtain ⟨z,h3,h4⟩:=allL_some h2 a h
    exact ⟨z,h3,λb hb=>List.mem_append_right _ (h4 b hb)⟩
noncomputable def xnextL (h:Hp) (x:XV):Option (List (XV×Hp)):=match x with
 | .ptr (some (L,0))=>onO (h.t.get L) λob=>match ob with
   | .it (some M) since seen last=>onO (mapAt h M) λq=>
     br (allX (λe=>Nat.blt e.2.2 last) q.1) (br (allX (λe=>Nat.blt e.2.2 since) q.1) (match filt (λe=>br (memN e.2.2 seen) false true) q.1 with
      | []=>none
      | e :: r=>some (mapL (λe=>(.tup [.bool true,e.1,e.2.1],⟨h.t.set (some (.it (some M) since (app seen [e.2.2]) q.2)) L,h.n⟩)) (e :: r))) none) none
   | _=>none
 | _=>none
section
variable {P:Program} {S0:Nat->Prop} {w0 w:World} {ρ:Lab} {h:Hp}
theorem ERs.get : ∀ {a:List (XV×XV×Nat)} {m:List MapEntry} {i:Nat} {x:MapEntry},ERs ρ a m->m[i]? = some x->∃ e,a[i]? = some e/\XR ρ e.1 x.key/\XR ρ e.2.1 x.val/\e.2.2=x.born
 | [],m,i,x,h1,h2=>by simp only [ERs] at h1; subst h1; simp at h2
 | e :: a,m,i,x,h1,h2=>by
   simp only [ERs] at h1
   obtain ⟨y,m',rfl,g1,g2,g3,g4⟩:=h1
   cases i with
   | zero=>simp at h2; subst h2; exact ⟨e,rfl,g1,g2,g3⟩
   | succ i=>exact g4.get (by simpa using h2)
theorem xnextL_run (hi:Inv S0 w0 ρ h w) {ty:TypeId} {x:XV} {LO:List (XV×Hp)} (hr:xnextL h x=some LO) {v:Value} (hx:XR ρ x v) : ∃ q∈LO,HardOk P S0 w0 ρ h.n w (Instr.next v false ty) q.1 q.2:=by
 unfold xnextL at hr
 split at hr
 ·next L=>
  obtain ⟨ob,h1,hr1⟩:=onO_some hr
  clear hr
  obtain ⟨b,s,h2,ho,_⟩:=hi.dom L ob h1
  simp only [XR] at hx
  obtain ⟨b',s',e1,rfl⟩:=hx
  rw [h2] at e1; cases e1
  cases ob with
  | it m since seen last=>
    cases m with
    | none=>cases hr1
    | some M=>
      obtain ⟨mb,ms',g1,g2⟩:=ho
      simp only at hr1
      obtain ⟨⟨es,c⟩,h3,hr2⟩:=onO_some hr1
      obtain ⟨h4,hr3⟩:=br_some hr2
      obtain ⟨h5,hr4⟩:=br_some hr3
      clear hr1 hr2 hr3
      obtain ⟨b2,s2,ms,q1,q2,q3,q4⟩:=hi.map h3
      rw [g1] at q2; cases q2
      rw [allX_eq] at h4 h5
      rw [filt_eq] at hr4
      have a4:(ms.all λe=>Nat.blt e.born last)=true:=by rw [<-q3.all (p:=λn=>Nat.blt n last)]; exact h4
      have a5:(ms.all λe=>Nat.blt e.born since)=true:=by rw [<-q3.all (p:=λn=>Nat.blt n since)]; exact h5
      have hge:ms=[]\/(ms.toArray.all λe=>decide (e.born>=last))=false:=by
       cases ms with
       | nil=>exact .inl rfl
       | cons e r=>
         right
         simp only [List.all_cons,Bool.and_eq_true,Nat.blt_eq] at a4
         simp only [List.all_toArray,List.all_cons,Bool.and_eq_false_iff,decide_eq_false_iff_not]
         left; exact Nat.not_le_of_lt a4.1
      have hf:(ms.toArray.filter λe=>!seen.toArray.contains e.born)=(ms.filter λe=>br (memN e.born seen) false true).toArray:=by
       apply Array.ext'
       rw [Array.toList_filter]
       congr 1
       funext e
       rw [br_not,memN_eq]; simp
      have hl:=q3.filter (p:=λn=>br (memN n seen) false true)
      have hun : ¬ ((!seen.toArray.isEmpty&&!ms.toArray.isEmpty&&ms.toArray.all λe=>decide (e.born>=last))=true):=by
       rcases hge with h | h
       ·subst h; simp
       ·rw [h]; simp
      have hold : ∀ e∈(ms.filter λe=>br (memN e.born seen) false true),e.born<since:=λe he=>by
       have:=List.all_eq_true.1 a5 e (List.mem_filter.1 he).1
       simpa [Nat.blt_eq] using this
      generalize hfl:(ms.filter λe=>br (memN e.born seen) false true)=fl at hf hl hold
      generalize hel:(es.filter λe=>br (memN e.2.2 seen) false true)=el at hr4 hl
      split at hr4
      ·cases hr4
      ·next e0 r0=>
       cases hr4
       have hne:fl.length=(e0 :: r0).length:=hl.len
       have hpos:0<fl.length:=by rw [hne]; simp
       have ho1:(fl.toArray.filter λe=>decide (e.born<since))=fl.toArray:=by
        apply Array.ext'
        rw [Array.toList_filter]
        exact List.filter_eq_self.2 λe he=>decide_eq_true (hold e he)
       have ho2:(fl.toArray.filter λe=>decide (e.born>=since)) = #[]:=by
        apply Array.ext'
        rw [Array.toList_filter]
        exact List.filter_eq_nil_iff.2 λe he=>by have:=hold e he; simp; omega
       have hcand:((if (fl.toArray.filter λe=>decide (e.born<since)).isEmpty then #[none] else #[])++((fl.toArray.filter λe=>decide (e.born<since))++(fl.toArray.filter λe=>decide (e.born>=since))).map some)=(fl.map some).toArray:=by
        rw [ho1,ho2]
        have:fl.toArray.isEmpty=false:=by cases fl with | nil=>simp at hpos | cons=>rfl
        rw [this]
        apply Array.ext'
        simp
       obtain ⟨i,w',hi1,hw',hch⟩ : ∃ i w',i<fl.length/\Mod NoB w w'/\w'.heap=w.heap/\(choose (.mapNext fl.length)).run P w = .ok i w':=by
        by_cases hfc:fl.length<=1
        ·exact ⟨0,w,hpos,Mod.refl _ _,rfl,by simp [choose,Sem.run,Question.forced,hfc]⟩
        ·exact ⟨_,w.drew,Nat.mod_lt _ hpos,Mod.drew _ _,rfl,by simp [choose,Sem.run,Question.forced,hfc,Question.cut]; rfl⟩
       obtain ⟨hwh,hch⟩:=hch
       obtain ⟨e,k1,k2,k3,k4⟩:=hl.get (List.getElem?_eq_getElem hi1)
       have hiw:=hi.no hw'
       obtain ⟨u1,u2⟩:=upd_map (w:=w') (o':=.mapIter (some mb) since (seen.toArray.push fl[i].born) c) (by rw [hwh]; exact g2)
       refine ⟨(.tup [.bool true,e.1,e.2.1],⟨h.t.set (some (.it (some M) since (app seen [e.2.2]) c)) L,h.n⟩),?_,.tuple #[.bool true,fl[i].key,fl[i].val],_,ρ,?_,Lab.up_refl _ _,?_,hiw.upd h1 h2 u1 ⟨mb,_,g1,by rw [u2,app_eq,k4]; simp⟩⟩
       ·rw [mapL_eq]
        exact List.mem_map.2 ⟨e,List.mem_of_getElem? k1,rfl⟩
       ·unfold Instr.next
        simp only [Sem.run_bind,run_getIter g2,Result.andThen_ok,run_getMap q4,if_neg hun,hf]
        rw [hcand]
        simp only [List.size_toArray,List.length_map,hch,Result.andThen_ok]
        simp [hi1,setObj,Sem.run,hwh,g2]
       ·simp only [XR]
        exact ⟨[.bool true,fl[i].key,fl[i].val],⟨_,_,rfl,rfl,_,_,rfl,k2,_,_,rfl,k3,rfl⟩,rfl⟩
  | _=>cases hr1
 ·cases hr
end
abbrev Outs:=FuncId->List XV->Hp->Option (List (XV×Hp))
def CallOkL (P:Program) (G:World->Prop) (f:FuncId) (xs:List XV) (h:Hp) (LO:List (XV×Hp)):Prop:=
 ∀ (S0:Nat->Prop) (w0:World) (ρ:Lab) (w:World) (vs:List Value),GOk G S0 w0->Inv S0 w0 ρ h w->XRs ρ xs vs->
   Calls P f vs.toArray w λe w'=>∃ q∈LO,∃ v ρ',e = .returned v/\Lab.up h.n ρ ρ'/\XR ρ' q.1 v/\Inv S0 w0 ρ' q.2 w'
noncomputable def yhard (P:Program) (Y:Outs) (env:XE) (h:Hp) (op:Op):Option (List (XV×Hp)):=match op with
 | .next it st=>br st none (onO (evX env it) λy=>xnextL h y)
 | .call {callee:=.value fo,args,..}=>onO (evX env fo) λv=>onO (evsX env args.toList) λxs=>match v with
   | .fn f a c=>br (enters P f) (Y f (app a (app xs c)) h) none
   | _=>none
 | _=>none
noncomputable def ystep (P:Program) (D:FuncId->Bool) (C:CallsX) (Y:Outs) (N:Nat) (env:XE) (h:Hp) (o:Oper):Option (List (XE×Hp)):=match xstep P D C N env h o with
 | some q=>some [q]
 | none=>onO (yhard P Y env h o.op) λl=>allL (λq=>br (Nat.ble h.n q.2.n) (onO (putE N env o.dst q.1) λe=>some [(e,q.2)]) none) l
noncomputable def yops (P:Program) (D:FuncId->Bool) (C:CallsX) (Y:Outs) (N:Nat) (all:List Oper) (l:List Oper):XE->Hp->Option (List (XE×Hp)):=
 List.rec (motive:=λ_=>XE->Hp->Option (List (XE×Hp))) (λenv h=>some [(env,h)]) (λo _ ih env h=>
  onO (xguard all env o.guard) λb=>br b (onO (ystep P D C Y N env h o) λl=>allL (λq=>ih q.1 q.2) l) (onO (putE N env o.dst (.tup [])) λe=>ih e h)) l
section
variable {P:Program} {G:World->Prop} {C:CallsX} {Y:Outs} {D:FuncId->Bool} {N fuel:Nat} {W:List Deferred->Prop} {r:Option Nat} {S0:Nat->Prop} {w0 w:World} {ρ:Lab} {h h':Hp} {a:Act} {K:Act->World->Prop} {Q:Exit->Act->World->Prop} {env env':XE} {o:Oper}
theorem yhard_wp (hY : ∀ f xs h L,Y f xs h=some L->CallOkL P G f xs h L) (hG:GOk G S0 w0) (hi:Inv S0 w0 ρ h w) {LO:List (XV×Hp)} (hr:yhard P Y env h o.op=some LO) (he:EnvOk ρ env a.tmps)
 (hk : ∀ q∈LO,∀ v w' ρ',Lab.up h.n ρ ρ'->XR ρ' q.1 v->Inv S0 w0 ρ' q.2 w'->K (a.put o.dst v) w'):o.wpIn (Fr r) 0 P a w K Q:=by
 obtain ⟨dst,op,type,pos,after,guard⟩:=o
 simp only at hr
 unfold yhard at hr
 split at hr
 ·next it st=>
  obtain ⟨hs,hr1⟩:=br_none hr
  obtain ⟨u,h1,hr2⟩:=onO_some hr1
  clear hr hr1
  subst hs
  obtain ⟨q,hq,hh⟩:=xnextL_run (P:=P) hi hr2 (evX_ok he h1) (ty:=type)
  exact hardOk_wp rfl rfl hh (hk q hq)
 ·next fo args at_=>
  obtain ⟨v,h1,hr⟩:=onO_some hr
  obtain ⟨xs,h2,hr⟩:=onO_some hr
  have hv:=evX_ok he h1
  have hxs:=args_of (evsX_ok he h2)
  cases v with
  | fn f b c=>
    simp only [XR] at hv
    obtain ⟨us,vs,g1,g2,hv⟩:=hv
    have earr:(us++((args.map a.eval).toList++vs)).toArray=us.toArray++args.map a.eval++vs.toArray:=by apply Array.ext'; simp
    simp only at hr
    obtain ⟨h3,hr⟩:=br_some hr
    have hcall:=hY _ _ _ _ hr S0 w0 ρ w _ hG hi (XRs_app g1 (XRs_app hxs g2))
    unfold Oper.wpIn
    have hrun:(execOp a.eval {dst:=dst,op:=.call {callee:=.value fo,args:=args,argTypes:=at_},type:=type,pos:=pos,after:=after,guard:=guard}).run P w = .ok (.enter f (us++((args.map a.eval).toList++vs)).toArray) w:=by
     rw [earr]
     simp only [execOp,resolve,hv,Deferred.ofValue,Sem.run_bind,Sem.run_pure,Result.andThen_ok,invoke]
     exact enters_run h3 w
    rw [semAt_plain rfl,hrun,Oper.uponIn_enter]
    refine ⟨λ_ _=>trivial,λh=>by simp [Fence.wide] at h,callsIn_fr.2 (Calls.mono hcall λe w' hq=>?_)⟩
    obtain ⟨q,hm,v,ρ',rfl,q1,q2,q3⟩:=hq
    exact hk q hm v w' ρ' q1 q2 q3
  | _=>cases hr
 ·cases hr
theorem ystep_wp (hW:DefIs D r W) (hC:CallsOk P G C) (hY : ∀ f xs h L,Y f xs h=some L->CallOkL P G f xs h L) (hG:GOk G S0 w0) (hi:Inv S0 w0 ρ h w) (he:Fit N ρ env a) (hd:W a.defers) {LO:List (XE×Hp)} (hr:ystep P D C Y N env h o=some LO)
 (hk : ∀ q∈LO,Then W N S0 w0 ρ h.n q.1 q.2 K):o.wpIn (Fr r) 0 P a w K Q:=by
 unfold ystep at hr
 cases h1:xstep P D C N env h o with
 | some q=>
   rw [h1] at hr
   cases hr
   exact xstep_wp hW hC hG hi he hd h1 (hk q (List.mem_singleton.2 rfl))
 | none=>
   rw [h1] at hr
   simp only at hr
   obtain ⟨l,h2,hr⟩:=onO_some hr
   refine yhard_wp hY hG hi h2 he.1 λq hq v w' ρ' g1 g2 g3=>?_
   obtain ⟨x,h3,h4⟩:=allL_some hr q hq
   obtain ⟨_,h3⟩:=br_some h3
   obtain ⟨e,h5,h3⟩:=onO_some h3
   cases h3
   exact hk _ (h4 _ (List.mem_singleton.2 rfl)) _ _ ρ' g1 ((he.le g1.1).put h5 g2) (put_def hd) g3
theorem ystep_mono {LO:List (XE×Hp)} (hr:ystep P D C Y N env h o=some LO) : ∀ q∈LO,h.n<=q.2.n:=by
 unfold ystep at hr
 intro q hq
 cases h1:xstep P D C N env h o with
 | some p=>
   rw [h1] at hr
   cases hr
   obtain rfl:=List.mem_singleton.1 hq
   exact xstep_mono h1
 | none=>
   rw [h1] at hr
   simp only at hr
   obtain ⟨l,h2,hr⟩:=onO_some hr
   have key : ∀ (l:List (XV×Hp)) (LO:List (XE×Hp)),allL (λq=>br (Nat.ble h.n q.2.n) (onO (putE N env o.dst q.1) λe=>some [(e,q.2)]) none) l=some LO->∀ q∈LO,h.n<=q.2.n:=by
    intro l
    induction l with
    | nil=>intro LO hr q hq; cases hr; cases hq
    | cons c l ih=>
      intro LO hr q hq
      have hr:(onO (br (Nat.ble h.n c.2.n) (onO (putE N env o.dst c.1) λe=>some [(e,c.2)]) none) λx=>onO (allL (λq=>br (Nat.ble h.n q.2.n) (onO (putE N env o.dst q.1) λe=>some [(e,q.2)]) none) l) λy=>some (app x y))=some LO:=hr
      obtain ⟨x,h3,hr⟩:=onO_some hr
      obtain ⟨y,h4,hr⟩:=onO_some hr
      cases hr
      rw [app_eq] at hq
      rcases List.mem_append.1 hq with hq | hq
      ·obtain ⟨h5,h3⟩:=br_some h3
       obtain ⟨e,h6,h3⟩:=onO_some h3
       cases h3
       obtain rfl:=List.mem_singleton.1 hq
       exact Nat.le_of_ble_eq_true h5
      ·exact ih y h4 q hq
   exact key l LO hr q hq
theorem yops_mono {all:List Oper} : ∀ (l:List Oper) {h:Hp} {env:XE} {LO:List (XE×Hp)},yops P D C Y N all l env h=some LO->∀ q∈LO,h.n<=q.2.n
 | [],h,env,LO,hr,q,hq=>by
   cases hr
   obtain rfl:=List.mem_singleton.1 hq
   exact Nat.le_refl _
 | o :: l,h,env,LO,hr,q,hq=>by
   have hr:(onO (xguard all env o.guard) λb=>br b (onO (ystep P D C Y N env h o) λL=>allL (λq=>yops P D C Y N all l q.1 q.2) L) (onO (putE N env o.dst (.tup [])) λe=>yops P D C Y N all l e h))=some LO:=hr
   obtain ⟨b,h1,hr⟩:=onO_some hr
   cases b with
   | true=>
     rw [br_t] at hr
     obtain ⟨L,h2,hr⟩:=onO_some hr
     have hm:=ystep_mono h2
     have key : ∀ (L:List (XE×Hp)) (LO:List (XE×Hp)),(∀ p∈L,h.n<=p.2.n)->allL (λq=>yops P D C Y N all l q.1 q.2) L=some LO->∀ q∈LO,h.n<=q.2.n:=by
      intro L
      induction L with
      | nil=>intro LO _ hr q hq; cases hr; cases hq
      | cons c L ih=>
        intro LO hm hr q hq
        have hr:(onO (yops P D C Y N all l c.1 c.2) λx=>onO (allL (λq=>yops P D C Y N all l q.1 q.2) L) λy=>some (app x y))=some LO:=hr
        obtain ⟨x,h3,hr⟩:=onO_some hr
        obtain ⟨y,h4,hr⟩:=onO_some hr
        cases hr
        rw [app_eq] at hq
        rcases List.mem_append.1 hq with hq | hq
        ·exact Nat.le_trans (hm c List.mem_cons_self) (yops_mono l h3 q hq)
        ·exact ih y (λp hp=>hm p (List.mem_cons_of_mem _ hp)) h4 q hq
     exact key L LO hm hr q hq
   | false=>
     rw [br_f] at hr
     obtain ⟨e,h2,hr⟩:=onO_some hr
     exact yops_mono l hr q hq
theorem yops_wp (hW:DefIs D r W) (hC:CallsOk P G C) (hY : ∀ f xs h L,Y f xs h=some L->CallOkL P G f xs h L) (hG:GOk G S0 w0) {all:List Oper} : ∀ (l:List Oper) {ρ:Lab} {h:Hp} {w:World} {env:XE} {a:Act} {LO:List (XE×Hp)},Inv S0 w0 ρ h w->Fit N ρ env a->W a.defers->yops P D C Y N all l env h=some LO->
 (∀ q∈LO,Then W N S0 w0 ρ h.n q.1 q.2 (λa w=>Q .normal a w))->wList P r all.toArray Q l a w
 | [],ρ,h,w,env,a,LO,hi,he,hd,hr,hk=>by
   cases hr
   exact hk _ (List.mem_singleton.2 rfl) _ _ ρ (Lab.up_refl _ _) he hd hi
 | o :: l,ρ,h,w,env,a,LO,hi,he,hd,hr,hk=>by
   have hr:(onO (xguard all env o.guard) λb=>br b (onO (ystep P D C Y N env h o) λL=>allL (λq=>yops P D C Y N all l q.1 q.2) L) (onO (putE N env o.dst (.tup [])) λe=>yops P D C Y N all l e h))=some LO:=hr
   obtain ⟨b,h1,hr⟩:=onO_some hr
   unfold wList
   rw [xguard_ok h1 he.1]
   cases b with
   | true=>
     rw [br_t] at hr
     obtain ⟨L,h2,hr⟩:=onO_some hr
     rw [if_pos rfl]
     refine ystep_wp hW hC hY hG hi he hd h2 λq hq a' w' ρ' g1 g2 g3 g4=>?_
     obtain ⟨x,h3,h4⟩:=allL_some hr q hq
     exact yops_wp hW hC hY hG l g4 g2 g3 h3 λp hp a2 w2 ρ2 g5=>hk p (h4 p hp) a2 w2 ρ2 (Lab.up_trans g1 (ystep_mono h2 q hq) g5)
   | false=>
     rw [br_f] at hr
     obtain ⟨e,h2,hr⟩:=onO_some hr
     rw [if_neg (by simp)]
     exact yops_wp hW hC hY hG l hi (he.put h2 undef_ok) (put_def hd) hr hk
end
noncomputable def yrf (P:Program) (Y:Outs) (N:Nat) (ps:Array Tmp) (x y:Code) (e:XE) (h:Hp) (v:XV):Option (List Out):=match v with
 | .fn f a c=>br (enters P f) (onO (Y f (app a (app [.yld h.n] c)) ⟨h.t.set (some (.loop true N e ps.toList x y)) h.n,Nat.succ h.n⟩) λl=>
    allL (λq=>br (Nat.ble (Nat.succ h.n) q.2.n) (onO (q.2.t.get h.n) λo=>match o with
     | .loop st _ _ _ _ _=>br st (some [.nrm e ⟨q.2.t.set none h.n,q.2.n⟩]) none
     | _=>none) none) l) none
 | _=>none
noncomputable def hdT {α:Type} (t:Tr α):Option α:=match t with | .lf=>none | .nd a _ _=>a
noncomputable def lT {α:Type} (t:Tr α):Tr α:=match t with | .lf=>.lf | .nd _ x _=>x
noncomputable def rT {α:Type} (t:Tr α):Tr α:=match t with | .lf=>.lf | .nd _ _ y=>y
noncomputable def commT {α:Type} (same:α->α->Bool) (t:Tr α) (l:List (Tr α)):Tr α:=
 Tr.rec (motive:=λ_=>List (Tr α)->Tr α) (λ_=>.lf) (λa _ _ ix iy l=>.nd (match a with
  | none=>none
  | some o=>br (allX (λ(s:Tr α)=>match hdT s with | none=>false | some o'=>same o o') l) (some o) none) (ix (mapL lT l)) (iy (mapL rT l))) t l
theorem get_hd {α:Type} : ∀ (s:Tr α),s.get 0=hdT s
 | .lf=>rfl
 | .nd _ _ _=>rfl
theorem get_lT {α:Type} (m:Nat) : ∀ (s:Tr α),s.get (2*m+1)=(lT s).get m
 | .lf=>rfl
 | .nd a x y=>Tr.get_n1 a x y m
theorem get_rT {α:Type} (m:Nat) : ∀ (s:Tr α),s.get (2*m+2)=(rT s).get m
 | .lf=>rfl
 | .nd a x y=>Tr.get_n2 a x y m
theorem commT_get {α:Type} {same:α->α->Bool} (hs : ∀ a b,same a b=true->a=b) : ∀ {t:Tr α} {l:List (Tr α)} {j:Nat} {o:α},(commT same t l).get j=some o->t.get j=some o/\∀ s∈l,s.get j=some o
 | .lf,l,j,o,h=>by
   have h:(Tr.lf:Tr α).get j=some o:=h
   rw [Tr.get_l] at h; cases h
 | .nd a x y,l,j,o,h=>by
   have h:(Tr.nd (match a with
    | none=>none
    | some o=>br (allX (λ(s:Tr α)=>match hdT s with | none=>false | some o'=>same o o') l) (some o) none) (commT same x (mapL lT l)) (commT same y (mapL rT l))).get j=some o:=h
   rcases Tr.key3 j with rfl | ⟨m,rfl⟩ | ⟨m,rfl⟩
   ·rw [Tr.get_n0] at h ⊢
    cases a with
    | none=>cases h
    | some o1=>
      simp only at h
      cases ha:allX (λ(s:Tr α)=>match hdT s with | none=>false | some o'=>same o1 o') l with
      | false=>rw [ha,br_f] at h; cases h
      | true=>
        rw [ha,br_t] at h; cases h
        refine ⟨rfl,λs hm=>?_⟩
        rw [allX_eq,List.all_eq_true] at ha
        have:=ha s hm
        rw [get_hd]
        cases hsg:hdT s with
        | none=>rw [hsg] at this; cases this
        | some o'=>rw [hsg] at this; rw [hs _ _ this]
   ·rw [Tr.get_n1] at h ⊢
    obtain ⟨h1,h2⟩:=commT_get hs h
    refine ⟨h1,λs hm=>?_⟩
    rw [get_lT]
    exact h2 _ (by rw [mapL_eq]; exact List.mem_map.2 ⟨s,hm,rfl⟩)
   ·rw [Tr.get_n2] at h ⊢
    obtain ⟨h1,h2⟩:=commT_get hs h
    refine ⟨h1,λs hm=>?_⟩
    rw [get_rT]
    exact h2 _ (by rw [mapL_eq]; exact List.mem_map.2 ⟨s,hm,rfl⟩)
noncomputable def maxN (n:Nat) (l:List Hp):Nat:=List.rec (motive:=λ_=>Nat) n (λp _ ih=>br (Nat.ble p.n ih) ih p.n) l
theorem maxN_ge {n:Nat} : ∀ (l:List Hp),n<=maxN n l/\∀ p∈l,p.n<=maxN n l
 | []=>⟨Nat.le_refl _,λp hp=>by cases hp⟩
 | c :: l=>by
   obtain ⟨h1,h2⟩:=maxN_ge (n:=n) l
   have e:maxN n (c :: l)=br (Nat.ble c.n (maxN n l)) (maxN n l) c.n:=rfl
   rw [e,br_eq]
   by_cases hb:Nat.ble c.n (maxN n l)=true
   ·rw [if_pos hb]
    refine ⟨h1,λp hp=>?_⟩
    rcases List.mem_cons.1 hp with rfl | hp
    ·exact Nat.le_of_ble_eq_true hb
    ·exact h2 p hp
   ·rw [if_neg hb]
    have:maxN n l<=c.n:=by
     rcases Nat.le_total c.n (maxN n l) with h | h
     ·exact absurd (Nat.ble_eq_true_of_le h) hb
     ·exact h
    refine ⟨Nat.le_trans h1 this,λp hp=>?_⟩
    rcases List.mem_cons.1 hp with rfl | hp
    ·exact Nat.le_refl _
    ·exact Nat.le_trans (h2 p hp) this
noncomputable def commH (h:Hp) (l:List Hp):Hp:=⟨commT sameB h.t (mapL Hp.t l),maxN h.n l⟩
noncomputable def mergeE (N:Nat) (e:XE) (h:Hp) (k:Out->Option (XE×Hp)) (l:List Out):Option (XE×Hp):=onO (mapO k l) λqs=>
 some (commT sameX e (mapL Prod.fst qs),commH h (mapL Prod.snd qs))
noncomputable def isNrm (o:Out):Option (XE×Hp):=match o with
 | .nrm e h=>some (e,h)
 | _=>none
noncomputable def isExt (i:Nat) (o:Out):Option (XE×Hp):=match o with
 | .ext j e h=>br (Nat.beq i j) (some (e,h)) none
 | _=>none
noncomputable def mergeO (N:Nat) (l:List Out):Option (List Out):=match l with
 | []=>none
 | o :: r=>match o with
   | .nrm e h=>onO (mergeE N e h isNrm r) λq=>some [.nrm q.1 q.2]
   | .ext i e h=>onO (mergeE N e h (isExt i) r) λq=>some [.ext i q.1 q.2]
   | .ret _ _=>none
noncomputable def yloop (f:XE->Hp->Option (List Out)):Nat->XE->Hp->Option (List Out):=Nat.rec (motive:=λ_=>XE->Hp->Option (List Out)) (λ_ _=>none) (λ_ ih e h=>onO (f e h) λl=>allL (λo=>match o with
 | .nrm e h=>ih e h
 | .ret e h=>some [.ret e h]
 | .ext i e h=>some [.ext i e h]) l)
noncomputable def ycode (P:Program) (D:FuncId->Bool) (C:CallsX) (Y:Outs) (N fuel:Nat) (mg:Bool) (c:Code):XE->Hp->Option (List Out):=
 Code.rec (motive:=λ_=>XE->Hp->Option (List Out))
  (λe h=>some [.nrm e h])
  (λ_ ops draw e h=>br draw (onO (xdraw P C N ops.toList e h) λq=>some [.nrm q.1 q.2]) (onO (yops P D C Y N ops.toList ops.toList e h) λl=>some (mapL (λq=>.nrm q.1 q.2) l)))
  (λ_ _ iha ihb e h=>onO (iha e h) λl=>allL (λo=>match o with
   | .nrm e h=>ihb e h
   | .ret e h=>some [.ret e h]
   | .ext i e h=>some [.ext i e h]) l)
  (λc _ _ iht ihe e h=>onO (evX e c) λx=>match x with
   | .bool b=>br b (iht e h) (ihe e h)
   | _=>none)
  (λid _ ih e h=>onO (ih e h) λl=>some (mapL (λo=>match o with
   | .nrm e h=>.nrm e h
   | .ret e h=>.ret e h
   | .ext i e h=>br (Nat.beq i id) (.nrm e h) (.ext i e h)) l))
  (λ_ ih e h=>onO (yloop ih fuel e h) λl=>br mg (mergeO N l) (some l))
  (λg ps x y _ _ e h=>onO (evX e g) λv=>match xrf P C N ps x y e h v with
   | some o=>some [o]
   | none=>yrf P Y N ps x y e h v)
  (λid e h=>some [.ext id e h])
  (λ_ _ _ _=>none)
  (λ_ _ _=>none)
  (λ_ _ _=>none)
  (λe h=>some [.ret e h])
  (λ_ _ _=>none) c
noncomputable def ybody (P:Program) (D:FuncId->Bool) (C:CallsX) (Y:Outs) (fuel:Nat) (mg:Bool) (fn:Func) (xs:List XV) (h:Hp):Option (List (XV×Hp)):=match fn.body with
 | none=>none
 | some c=>br (Nat.ble (len xs) fn.ntmps) (onO (ycode P D C Y fn.ntmps fuel mg c (bindX xs 0 .lf) h) λl=>allL (λo=>match o with
   | .nrm e h'=>onO (resX P e h' fn.results.toList) λl=>some [(packX1 l,h')]
   | .ret e h'=>onO (resX P e h' fn.results.toList) λl=>some [(packX1 l,h')]
   | .ext _ _ _=>none) l) none
section
variable {P:Program} {G:World->Prop} {C:CallsX} {Y:Outs} {D:FuncId->Bool} {N fuel:Nat} {S0:Nat->Prop} {w0 w:World} {ρ:Lab} {h h':Hp} {a:Act} {env:XE}
theorem Inv.less (hi:Inv S0 w0 ρ h w) (hn:h.n<=h'.n) (hs : ∀ L o,h'.t.get L=some o->h.t.get L=some o):Inv S0 w0 ρ h' w:=
 ⟨λL hL=>hi.fresh L (by omega),λL o e=>hi.dom L o (hs L o e),λL L' o o' b s s' e1 e2=>hi.inj L L' o o' b s s' (hs _ _ e1) (hs _ _ e2),hi.mod⟩
theorem EndX.less {M:Nat->Prop} {n:Nat} {e e':XE} (he:EndX D N M S0 w0 ρ n e h a w) (hn:h.n<=h'.n) (hs : ∀ L o,h'.t.get L=some o->h.t.get L=some o) (hv : ∀ t x,e'.get t=some x->e.get t=some x):EndX D N M S0 w0 ρ n e' h' a w:=by
 obtain ⟨h1,ρ',h2,h3,h4,h5⟩:=he
 refine ⟨by omega,ρ',h2,⟨λt x hx=>h3.1 t x (hv t x hx),h3.2⟩,h4.mono λb hb=>?_,h5.less hn hs⟩
 rcases hb with hb | ⟨b1,b2,b3⟩
 ·exact .inl hb
 ·exact .inr ⟨b1,b2,λ⟨L,z,s,q1,q2⟩=>b3 ⟨L,z,s,hs _ _ q1,q2⟩⟩
theorem commH_ok {l:List Hp} : ∀ k∈h :: l,k.n<=(commH h l).n/\∀ L o,(commH h l).t.get L=some o->k.t.get L=some o:=λk hk=>by
 obtain ⟨m1,m2⟩:=maxN_ge (n:=h.n) l
 refine ⟨?_,λL o e=>?_⟩
 ·rcases List.mem_cons.1 hk with rfl | hk
  ·exact m1
  ·exact m2 k hk
 ·obtain ⟨h1,h2⟩:=commT_get (λa b=>sameB_eq) e
  rcases List.mem_cons.1 hk with rfl | hk
  ·exact h1
  ·refine h2 k.t ?_
   rw [mapL_eq]; exact List.mem_map.2 ⟨k,hk,rfl⟩
theorem mergeE_ok {e:XE} {k:Out->Option (XE×Hp)} {l:List Out} {q:XE×Hp} (hr:mergeE N e h k l=some q):(h.n<=q.2.n/\(∀ L o,q.2.t.get L=some o->h.t.get L=some o)/\∀ t x,q.1.get t=some x->e.get t=some x)/\
 ∀ o∈l,∃ e1 h1,k o=some (e1,h1)/\h1.n<=q.2.n/\(∀ L o,q.2.t.get L=some o->h1.t.get L=some o)/\∀ t x,q.1.get t=some x->e1.get t=some x:=by
 unfold mergeE at hr
 obtain ⟨qs,h1,hr⟩:=onO_some hr
 cases hr
 obtain ⟨a1,a2⟩:=commH_ok (l:=mapL Prod.snd qs) h List.mem_cons_self
 refine ⟨⟨a1,a2,λt x e=>(commT_get (λa b=>sameX_eq) e).1⟩,λo ho=>?_⟩
 have hq : ∀ (l:List Out) (qs:List (XE×Hp)),mapO k l=some qs->∀ o∈l,∃ z∈qs,k o=some z:=by
  intro l
  induction l with
  | nil=>intro qs _ o ho; cases ho
  | cons c l ih=>
    intro qs hq o ho
    obtain ⟨n,r,rfl,q1,q2⟩:=mapO_cons hq
    rcases List.mem_cons.1 ho with rfl | ho
    ·exact ⟨n,List.mem_cons_self,q1⟩
    ·obtain ⟨z,z1,z2⟩:=ih r q2 o ho
     exact ⟨z,List.mem_cons_of_mem _ z1,z2⟩
 obtain ⟨⟨e1,h3⟩,z1,z2⟩:=hq l qs h1 o ho
 obtain ⟨b1,b2⟩:=commH_ok (l:=mapL Prod.snd qs) h3 (List.mem_cons_of_mem _ (by rw [mapL_eq]; exact List.mem_map.2 ⟨_,z1,rfl⟩))
 exact ⟨e1,h3,z2,b1,b2,λt x e=>(commT_get (λa b=>sameX_eq) e).2 e1 (by rw [mapL_eq]; exact List.mem_map.2 ⟨_,z1,rfl⟩)⟩
theorem mergeO_ok {M:Nat->Prop} {n:Nat} {l LO:List Out} (hr:mergeO N l=some LO) {o:Out} (ho:o∈l) {e:Exit} (hq:QX D N M S0 w0 ρ n o e a w) : ∃ o∈LO,QX D N M S0 w0 ρ n o e a w:=by
 unfold mergeO at hr
 cases l with
 | nil=>cases hr
 | cons o0 r=>
   simp only at hr
   cases o0 with
   | ret e1 h1=>cases hr
   | nrm e1 h1=>
     simp only at hr
     obtain ⟨⟨e2,h2⟩,h3,hr⟩:=onO_some hr
     cases hr
     obtain ⟨⟨a1,a2,a3⟩,b⟩:=mergeE_ok h3
     rcases List.mem_cons.1 ho with rfl | ho
     ·cases e with
      | normal=>
        obtain ⟨e',h',heq,hE⟩:=hq
        cases heq
        exact ⟨_,List.mem_singleton.2 rfl,_,_,rfl,hE.less a1 a2 a3⟩
      | ret=>obtain ⟨_,_,heq,_⟩:=hq; cases heq
      | exit i=>obtain ⟨_,_,heq,_⟩:=hq; cases heq
      | _=>exact hq.elim
     ·obtain ⟨e3,h4,k1,k2,k3,k4⟩:=b o ho
      unfold isNrm at k1
      cases o with
      | nrm e5 h5=>
        cases k1
        cases e with
        | normal=>
          obtain ⟨e',h',heq,hE⟩:=hq
          cases heq
          exact ⟨_,List.mem_singleton.2 rfl,_,_,rfl,hE.less k2 k3 k4⟩
        | ret=>obtain ⟨_,_,heq,_⟩:=hq; cases heq
        | exit i=>obtain ⟨_,_,heq,_⟩:=hq; cases heq
        | _=>exact hq.elim
      | _=>cases k1
   | ext j e1 h1=>
     simp only at hr
     obtain ⟨⟨e2,h2⟩,h3,hr⟩:=onO_some hr
     cases hr
     obtain ⟨⟨a1,a2,a3⟩,b⟩:=mergeE_ok h3
     rcases List.mem_cons.1 ho with rfl | ho
     ·cases e with
      | exit i=>
        obtain ⟨e',h',heq,hE⟩:=hq
        cases heq
        exact ⟨_,List.mem_singleton.2 rfl,_,_,rfl,hE.less a1 a2 a3⟩
      | ret=>obtain ⟨_,_,heq,_⟩:=hq; cases heq
      | normal=>obtain ⟨_,_,heq,_⟩:=hq; cases heq
      | _=>exact hq.elim
     ·obtain ⟨e3,h4,k1,k2,k3,k4⟩:=b o ho
      unfold isExt at k1
      cases o with
      | ext j2 e5 h5=>
        simp only at k1
        obtain ⟨hj,k5⟩:=br_some k1
        clear k1
        have hj:=Nat.eq_of_beq_eq_true hj
        subst hj
        cases k5
        cases e with
        | exit i=>
          obtain ⟨e',h',heq,hE⟩:=hq
          cases heq
          exact ⟨_,List.mem_singleton.2 rfl,_,_,rfl,hE.less k2 k3 k4⟩
        | ret=>obtain ⟨_,_,heq,_⟩:=hq; cases heq
        | normal=>obtain ⟨_,_,heq,_⟩:=hq; cases heq
        | _=>exact hq.elim
      | _=>cases k1
theorem yrf_wp (hY : ∀ f xs h L,Y f xs h=some L->CallOkL P G f xs h L) {M:Nat->Prop} (hG:GOk G S0 w0) (hM : ∀ b,M b->Mk0 S0 w0 b) (hi:Inv S0 w0 ρ h w) (he:Fit N ρ env a) (hd:DefOk D M a.defers) {g:Operand} {ps:Array Tmp} {x y:Code} {v:XV} {LO:List Out}
 (h2:evX env g=some v) (hr:yrf P Y N ps x y env h v=some LO):(Code.rangeFunc g ps x y).wpIn (Fr none) 0 P (λe a w=>∃ o∈LO,QX D N M S0 w0 ρ h.n o e a w) a w:=by
 have hv:=evX_ok he.1 h2
 unfold yrf at hr
 cases v with
 | fn f b c=>
   obtain ⟨h3,hr⟩:=br_some hr
   obtain ⟨LY,h5,hr⟩:=onO_some hr
   simp only [XR] at hv
   obtain ⟨us,vs,g1,g2,hge⟩:=hv
   refine wpIn_rangeFunc λfn hfn=>?_
   obtain ⟨W0,hW0⟩ : ∃ W0,W0=w.alloc (.deferred (some [])):=⟨_,rfl⟩
   have s0:W0.heap.size=w.heap.size+1:=by rw [hW0]; exact World.size_alloc _ _
   obtain ⟨W1,hW1⟩ : ∃ W1,W1=W0.alloc (.loop {state:=.ready,pending:=none,fn:=fn,tmps:=a.tmps,params:=ps,assign:=x,body:=y,defers:=w.heap.size}):=⟨_,rfl⟩
   have hi0:Inv S0 w0 ρ h W0:=hi.no (by rw [hW0]; exact alloc_mod _ _)
   have hn1:Mod NoB W0 W1:=by rw [hW1]; exact alloc_mod _ _
   have hl1:Lab.le ρ (λL=>if L=h.n then some (w.heap.size+1,0) else ρ L):=le_new hi _ _
   obtain ⟨ρ1,hρ1⟩ : ∃ ρ1:Lab,ρ1=(λL=>if L=h.n then some (w.heap.size+1,0) else ρ L):=⟨_,rfl⟩
   obtain ⟨h1,hh1⟩ : ∃ h1:Hp,h1=⟨h.t.set (some (.loop true N env ps.toList x y)) h.n,h.n+1⟩:=⟨_,rfl⟩
   have hi1:Inv S0 w0 ρ1 h1 W1:=by
    rw [hρ1,hh1]
    refine (hi0.new (o:=.loop true N env ps.toList x y) (b:=w.heap.size+1) (s:=0) s0.symm hn1 ⟨a.tmps,fn,w.heap.size,λt z hz=>?_,he.2,?_⟩).1
    ·obtain ⟨u,q1,q2⟩:=he.1 t z hz
     exact ⟨u,q1,XR.le hl1 _ _ q2⟩
    ·rw [hW1,<-s0]
     exact World.alloc_heap_new _ _
   have hl1':Lab.le ρ ρ1:=by rw [hρ1]; exact hl1
   have hh1':h1=⟨h.t.set (some (.loop true N env ps.toList x y)) h.n,Nat.succ h.n⟩:=hh1
   have hup:Lab.up h.n ρ ρ1:=by rw [hρ1]; exact Lab.up_new hl1
   have hL1:ρ1 h.n=some (w.heap.size+1,0):=by rw [hρ1]; simp
   have mk1:W1.heap[w.heap.size]? = some (.deferred (some [])):=by
    have e:W0.heap[w.heap.size]? = some (.deferred (some [])):=by rw [hW0]; exact World.alloc_heap_new _ _
    exact (hn1.block _ (by omega) λq=>q).trans e
   have nl1 : ¬ Loc ρ1 h1.t.get w.heap.size:=λ⟨L,z,s,q1,q2⟩=>by
    rw [hh1] at q1
    simp only [Tr.get_set] at q1
    rw [hρ1] at q2
    by_cases hL:L=h.n
    ·simp only [hL,↓reduceIte,Option.some.injEq,Prod.mk.injEq] at q2
     omega
    ·rw [if_neg hL] at q1
     simp only [hL,↓reduceIte] at q2
     obtain ⟨b',s',q3,q4,_⟩:=hi.dom L z q1
     rw [q2] at q3; cases q3
     have:=q4.lt
     omega
   refine ⟨w.heap.size+1,[mkD w.heap.size],W1,{target:=.fn (.func f) vs.toArray,args:=us.toArray++#[.func (.yield (w.heap.size+1)) #[] #[]]},W1,f,us.toArray++#[.func (.yield (w.heap.size+1)) #[] #[]]++vs.toArray,W1,
    by rw [hW1,hW0]; exact run_enterLoop_outer _ _ _ _ _,?_,λ_ _=>trivial,?_,λe=>by simp [Fence.wide] at e,?_⟩
   ·simp [resolve,hge,Deferred.ofValue]
    rfl
   ·simp only [invoke]
    exact enters_run h3 _
   ·have hargs:XRs ρ1 (app b (app [.yld h.n] c)) (us++([.func (.yield (w.heap.size+1)) #[] #[]]++vs)):=
     XRs_app (XRs.le hl1' _ _ g1) (XRs_app (xs:=[.yld h.n]) (us:=[.func (.yield (w.heap.size+1)) #[] #[]]) ⟨_,[],rfl,by simp only [XR]; exact ⟨_,_,hL1,rfl⟩,rfl⟩ (XRs.le hl1' _ _ g2))
    rw [<-hh1'] at h5
    have hcall:=hY _ _ _ _ h5 (Loc ρ1 h1.t.get) W1 ρ1 W1 _ (InvG.gok hG (InvG.of hi1)) (InvG.of hi1).loc.to hargs
    have e:(us++([Value.func (.yield (w.heap.size+1)) #[] #[]]++vs)).toArray=us.toArray++#[Value.func (.yield (w.heap.size+1)) #[] #[]]++vs.toArray:=by apply Array.ext'; simp
    rw [e] at hcall
    refine callsIn_fr.2 (Calls.mono hcall λe w2 hq=>?_)
    obtain ⟨⟨yv,h4⟩,hmem,u,ρ2,rfl,q1,_,q3⟩:=hq
    obtain ⟨xo,hxo,hin⟩:=allL_some hr _ hmem
    obtain ⟨h6,hxo⟩:=br_some hxo
    obtain ⟨ob,h7,hxo⟩:=onO_some hxo
    simp only at hxo h6 h7 q3
    have h6:=Nat.le_of_ble_eq_true h6
    cases ob with
    | loop st N1 E1 ps1 x1 y1=>?_
    | _=>cases hxo
    simp only at hxo
    obtain ⟨hst,hxo⟩:=br_some hxo
    subst hst
    cases hxo
    have hL2:ρ2 h.n=some (w.heap.size+1,0):=q1.1 _ _ hL1
    have hib:=inv_back hi1 q1.1 q3
    obtain ⟨b',s',r1,⟨tm,fn',d,r2,r3,r4⟩,_⟩:=q3.dom _ _ h7
    rw [hL2] at r1; cases r1
    have r4:w2.heap[w.heap.size+1]? = some (.loop {state:=.ready,pending:=none,fn:=fn',tmps:=tm,params:=ps1.toArray,assign:=x1,body:=y1,defers:=d}):=r4
    have lt1:w.heap.size<W1.heap.size:=lt_of_get mk1
    have mk2:w2.heap[w.heap.size]? = some (.deferred (some [])):=(q3.mod.block _ lt1 nl1).trans mk1
    have nl2:=not_loc q3 nl1 lt1
    refine ⟨none,_,run_endLoop r4 (by simp),_,hin _ (List.mem_singleton.2 rfl),_,_,rfl,Nat.le_trans (Nat.le_succ _) h6,ρ2,Lab.up_trans hup (Nat.le_succ _) (by rw [hh1] at q1; exact q1),⟨λt z hz=>?_,he.2⟩,?_,hib.objPut h7 hL2 (λ_ e=>by cases e)⟩
    ·obtain ⟨u,z1,z2⟩:=he.1 t z hz
     exact ⟨u,z1,XR.le (Lab.le_trans hup.1 q1.1) _ _ z2⟩
    ·refine ⟨λd hd'=>?_,?_⟩
     rotate_left
     ·show (marks (mkD w.heap.size :: a.defers)).Nodup
      rw [marks_col (b:=w.heap.size) rfl,List.nodup_cons]
      refine ⟨λhb=>?_,hd.2⟩
      have:=lt_of_get (hM _ (hd.of_marks hb)).2
      have:=hi.mod.size
      omega
     rcases List.mem_cons.1 hd' with rfl | hd'
     ·refine .inr ⟨w.heap.size,rfl,.inr ⟨hi.mod.size,?_,λ⟨L,z,s,z1,z2⟩=>?_⟩⟩
      ·refine ((put_mod' (lt_of_get r4)).1.block _ (lt_of_get mk2) ?_).trans mk2
       intro e
       simp at e
      ·simp only [Tr.get_set] at z1
       split at z1
       ·cases z1
       ·exact nl2 ⟨L,z,s,z1,z2⟩
     ·rcases hd.1 d hd' with z | ⟨b,z1,z2⟩
      ·exact .inl z
      ·exact .inr ⟨b,z1,.inl z2⟩
 | _=>cases hr
end
end Go.X
end
