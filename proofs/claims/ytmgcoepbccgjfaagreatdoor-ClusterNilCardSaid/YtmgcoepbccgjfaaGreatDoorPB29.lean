/- The forms of the translated functions,their contracts and the plain laws behind them,put together by a program. -/
import Derived.Test.YtmgcoepbccgjfaaGreatDoorPB28
set_option linter.unusedSimpArgs false
set_option linter.unusedVariables false
set_option maxRecDepth 1000000
set_option maxHeartbeats 8000000
section
namespace Go.Proofs.YtmgcoepbccgjfaaGreatDoor
open Go Go.Sh Go.X
abbrev i64 (n:Nat):XV:=.int .i64 (.ofNat n)
abbrev pt (L o:Nat):XV:=.ptr (some (L,o))
noncomputable def hn (n v:Nat):List Nat:=Nat.rec (motive:=λ_=>List Nat->Nat->List Nat) (λa _=>a) (λ_ ih a v=>ih (Nat.mod v 256 :: a) (Nat.div v 256)) n [] v
noncomputable def hb (n v:Nat):List XV:=mapB (hn n v)
noncomputable abbrev runW (t:Tr (List EntG)):FuncId->List XV->Hp->Option (XV×Hp):=(wcalls Tryz.prog dF (withG nA t) kd 1000 60).1.c
theorem entGK {t:Tr (List EntG)} (ht:EsG Tryz.prog GS t) {e:EntG} {ks:List Nat} (h:Go.X.okK e ks (runW t e.f e.xs e.heap)=true):EsG Tryz.prog GS (addG t e):=
 ht.add (entK_of (λy h' hr=>(wcalls_ok mixed dF_ok (withG_ok nA_ok ht) kd 60).1.c _ _ _ _ _ hr) h)
noncomputable abbrev bt0:List XV:=hb 8 0x0000000000000001
noncomputable abbrev bt1:List XV:=hb 9 0x000000000000000161
noncomputable abbrev bt2:List XV:=hb 8 0x0000000000000000
noncomputable abbrev bt3:List XV:=hb 9 0x000000000000000176
noncomputable abbrev bt4:List XV:=hb 64 0x27a1d5e01e12b155cb1891887b9b962d65d01eb4fccb6186e733ea5b70bb8a39ef2d282b3fe9b2654d5a8adf9c920d509d2257cff537a64da8eaec8754d6a209
noncomputable abbrev bt5:List XV:=hb 108 0x010000000000000001610000000000000001000000000000000100000000000000000000000000000000017627a1d5e01e12b155cb1891887b9b962d65d01eb4fccb6186e733ea5b70bb8a39ef2d282b3fe9b2654d5a8adf9c920d509d2257cff537a64da8eaec8754d6a209
noncomputable abbrev bt6:List XV:=hb 17 0x0100000000000000010000000000000000
noncomputable abbrev bt7:List XV:=hb 64 0xb8244d028981d693af7b456af8efa4cad63d282e19ff14942c246e50d9351d22704a802a71c3580b6370de4ceb293c324a8423342557d4e5c38438f0e36910ee
noncomputable abbrev bt8:List XV:=hb 24 0x000000000000000200000000000000000000000000000001
noncomputable abbrev bt9:List XV:=hb 64 0x3ab9222054c91492d1d85c05555ca3185299e7b7f3a3c0895e0ae84d11bee1ee04e76782d2219bd1229d91ed962e68fb2bac29647dc5ddbfec286d13d379645a
noncomputable abbrev bt10:List XV:=hb 64 0x44d4962b0cf5f4087d8b9942cca0cb19aefcbcc5e97e9fb841f8f0347a9db38150ee9ded50d9a7f1e620172b9a6b9e5298f34adc9ccab3c9b4c16f23b132e50f
noncomputable abbrev bt11:List XV:=hb 17 0x0100000000000000020000000000000000
noncomputable abbrev bt12:List XV:=hb 17 0x0100000000000000030000000000000001
noncomputable abbrev bt13:List XV:=hb 64 0xb1aa36ac958800f4585478f186c4e4bfd6f9e5a1cc6c55222e20bab52e923d53128085aaf95e81769dce2998154915c93d635b19bb43b7221279c7992c0619be
noncomputable abbrev bt14:List XV:=hb 64 0xa1b1b8b605fa2d2383254824c8d2634ad9e4b64a826b4745bf49212ac57bc8619bd636d72c23a0800837b337e96e51cbb2d43e431bf24fd4ce0c9b6243bebe79
noncomputable abbrev bt15:List XV:=hb 17 0x0300000000000000030000000000000000
noncomputable abbrev bt16:List XV:=hb 17 0x0100000000000000040000000000000002
noncomputable abbrev bt17:List XV:=hb 64 0xeae76fa414285c47e97d2bec2973587b78da53243dc53af59beb04e80f291c6f75c79c96eb38b1c55d0f6be2b6d100641d72d73b7876ba9f61d9296a0c223805
noncomputable abbrev bt18:List XV:=hb 17 0x0100000000000000050000000000000003
noncomputable abbrev bt19:List XV:=hb 64 0x37a1de6fc96fac73a886fafa02697eac568b3645876f7aa9ce8ccc1d38705378d1c0b0cbe5368addf60b49237eb3ba90574adecd63eccb621d9f91bce5293b1c
noncomputable abbrev bt20:List XV:=hb 64 0x2fb22eba542a42b3edbd89efd393a505c3c46e9c304a8c86b3a9272d7f8ec18fd15c85d97c9eb92c09b613a49607f3bdff6e30f618137c0609997ac8d121a634
noncomputable def es0:Tr (List EntG):=.lf
noncomputable def en0:EntG:=⟨574,[(none,0)],[.sl (some (0,0)) 1 1],[some (.cells [.str (hn 9 0x6a6f75726e616c2e30)])],.bool true,[],1⟩
noncomputable def es1:=addG es0 en0
noncomputable def en1:EntG:=⟨285,[(none,0),(some 0,0),(some 0,1)],[pt 0 0,.str (hn 9 0x6a6f75726e616c2e30)],[some (.cells [.map (some 1),.map (some 2),i64 4194304]),some (.map [] 0),some (.map [] 0)],.tup [pt 3 0,.sl none 0 0,i64 0],[(1,some (.map [(.str (hn 9 0x6a6f75726e616c2e30),.str [],0)] 1)),(3,some (.cells [pt 0 0,.str (hn 9 0x6a6f75726e616c2e30)]))],4⟩
noncomputable def es2:=addG es1 en1
noncomputable def en2:EntG:=⟨177,[],[.sl none 0 0,.agg [i64 1,i64 1]],[],.bool false,[],0⟩
noncomputable def es3:=addG es2 en2
noncomputable def en3:EntG:=⟨179,[],[i64 1],[],.sl (some (0,0)) 8 8,[(0,some (.cells bt0))],1⟩
noncomputable def es4:=addG es3 en3
noncomputable def en4:EntG:=⟨178,[(none,0)],[.slu 0 0 1 1],[some (.row [u8 97])],.slu 1 0 9 1,[(1,some (.row bt1))],2⟩
noncomputable def es5:=addG es4 en4
noncomputable def en5:EntG:=⟨179,[],[i64 0],[],.sl (some (0,0)) 8 8,[(0,some (.cells bt2))],1⟩
noncomputable def es6:=addG es5 en5
noncomputable def en6:EntG:=⟨178,[(none,0)],[.slu 0 0 1 1],[some (.row [u8 118])],.slu 1 0 9 1,[(1,some (.row bt3))],2⟩
noncomputable def es7:=addG es6 en6
noncomputable def en7:EntG:=⟨180,[(none,0),(some 0,0),(some 0,1),(some 0,2),(some 0,3),(some 0,4),(some 0,5),(some 0,6)],[.slu 0 0 7 1],[some (.row [.sl (some (1,0)) 1 1,.slu 2 0 9 1,.sl (some (3,0)) 8 8,.sl (some (4,0)) 8 8,.sl (some (5,0)) 8 8,.sl (some (6,0)) 1 1,.slu 7 0 9 1]),some (.cells [u8 1]),some (.row bt1),some (.cells bt0),some (.cells bt0),some (.cells bt2),some (.cells [u8 0]),some (.row bt3)],.slu 8 0 44 1,[(8,some (.row (hb 44 0x0100000000000000016100000000000000010000000000000001000000000000000000000000000000000176)))],9⟩
noncomputable def es8:=addG es7 en7
noncomputable def en8:EntG:=⟨104,[(none,5),(none,6)],[.agg [.str [97],i64 1,i64 1,.sl none 0 0,.bool false,.slu 0 0 1 1,.slu 1 0 64 1]],[none,none],.bool true,[],2⟩
noncomputable def es9:=addG es8 en8
noncomputable def en9:EntG:=⟨210,[(none,0),(none,6),(none,7),(some 0,1)],[.agg [.slu 0 0 1 3],.agg [.str [97],i64 1,i64 1,.sl none 0 0,.bool false,.slu 1 0 1 1,.slu 2 0 64 1]],[some (.row [i64 1,.slu 3 0 32 1,.str []]),some (.row [u8 118]),some (.row bt4),some (.row (hb 32 0x66be7e332c7a453332bd9d0a7f7db055f5c5ef1a06ada66d98b39fb6810c473a))],.tup [],[],4⟩
noncomputable def es10:=addG es9 en9
noncomputable def en10:EntG:=⟨448,[(none,5),(none,6)],[.agg [.str [97],i64 1,i64 1,.sl none 0 0,.bool false,.slu 0 0 1 1,.slu 1 0 64 1]],[some (.row [u8 118]),some (.row bt4)],.tup [.slu 2 0 108 1,i64 0],[(2,some (.row bt5))],3⟩
noncomputable def es11:=addG es10 en10
noncomputable def en11:EntG:=⟨254,[(none,0)],[.sl (some (0,0)) 3 3],[some (.cells [i64 0,i64 0,i64 0,.sl none 0 0,.sl none 0 0,i64 0,i64 0,i64 0,.sl none 0 0,.sl none 0 0,i64 0,i64 0,i64 0,.sl none 0 0,.sl none 0 0])],.bool true,[],1⟩
noncomputable def es12:=addG es11 en11
noncomputable def en12:EntG:=⟨289,[(none,0)],[.slu 0 0 108 1],[some (.row bt5)],.tup [.agg [.str [97],i64 1,i64 1,.sl none 0 0,.bool false,.slu 1 0 1 1,.slu 2 0 64 1],i64 0],[(1,some (.row [u8 118])),(2,some (.row bt4))],3⟩
noncomputable def es13:=addG es12 en12
noncomputable def en13:EntG:=⟨136,[(none,0)],[.slu 0 0 125 1],[some (.row (hb 125 0x050000000000000001000000000000006c010000000000000001610000000000000001000000000000000100000000000000000000000000000000017627a1d5e01e12b155cb1891887b9b962d65d01eb4fccb6186e733ea5b70bb8a39ef2d282b3fe9b2654d5a8adf9c920d509d2257cff537a64da8eaec8754d6a209))],.tup [.agg [u8 5,i64 1,i64 0,.str [],.str [],i64 0,i64 0,i64 0,.sl none 0 0,.sl none 0 0,.sl none 0 0,.sl none 0 0,.sl none 0 0,u8 0,.sl none 0 0,.sl none 0 0,.sl none 0 0,.sl (some (3,0)) 1 1,i64 0,i64 0,i64 0,.sl none 0 0,.sl none 0 0,i64 0,i64 0,i64 0,.sl none 0 0,.sl none 0 0,i64 0],i64 0],[(3,some (.cells [.str [97],i64 1,i64 1,.sl none 0 0,.bool false,.slu 1 0 1 1,.slu 2 0 64 1])),(2,some (.row bt4)),(1,some (.row [u8 118]))],4⟩
noncomputable def es14:=addG es13 en13
noncomputable def en14:EntG:=⟨120,[(none,0),(some 0,0),(some 0,1),(some 0,2),(some 0,3),(some 1,3),(some 2,3),(some 3,3),(some 4,3)],[pt 0 0],[some (.cells [pt 1 0,pt 2 0,pt 3 0,pt 4 0,.bool true]),some (.cells [.sl none 0 0,.sl none 0 0,i64 0,.map (some 5)]),some (.cells [.sl none 0 0,.sl none 0 0,i64 1,.map (some 6)]),some (.cells [.sl none 0 0,.sl none 0 0,i64 2,.map (some 7)]),some (.cells [.sl none 0 0,.sl none 0 0,i64 3,.map (some 8)]),none,none,none,none],.sl none 0 0,[],9⟩
noncomputable def es15:=addG es14 en14
noncomputable def en15:EntG:=⟨121,[(none,0),(some 0,0)],[.fn 204 [] [pt 0 0]],[some (.cells [.map (some 1)]),some (.map [] 0)],.sl none 0 0,[],2⟩
noncomputable def es16:=addG es15 en15
noncomputable def en16:EntG:=⟨121,[(none,0),(some 0,0)],[.fn 205 [] [pt 0 0]],[some (.cells [.map (some 1)]),some (.map [] 0)],.sl none 0 0,[],2⟩
noncomputable def es17:=addG es16 en16
noncomputable def en17:EntG:=⟨224,[(none,0),(some 0,3)],[pt 0 0],[some (.cells [.sl none 0 0,.sl none 0 0,i64 0,.map (some 1)]),some (.map [] 0)],pt 3 0,[(3,some (.cells [.sl none 0 0,.sl none 0 0,i64 0,.map (some 2)])),(2,some (.map [] 0))],4⟩
noncomputable def es18:=addG es17 en17
noncomputable def en18:EntG:=⟨224,[(none,0),(some 0,3)],[pt 0 0],[some (.cells [.sl none 0 0,.sl none 0 0,i64 1,.map (some 1)]),some (.map [] 0)],pt 3 0,[(3,some (.cells [.sl none 0 0,.sl none 0 0,i64 1,.map (some 2)])),(2,some (.map [] 0))],4⟩
noncomputable def es19:=addG es18 en18
noncomputable def en19:EntG:=⟨224,[(none,0),(some 0,3)],[pt 0 0],[some (.cells [.sl none 0 0,.sl none 0 0,i64 2,.map (some 1)]),some (.map [] 0)],pt 3 0,[(3,some (.cells [.sl none 0 0,.sl none 0 0,i64 2,.map (some 2)])),(2,some (.map [] 0))],4⟩
noncomputable def es20:=addG es19 en19
noncomputable def en20:EntG:=⟨224,[(none,0),(some 0,3)],[pt 0 0],[some (.cells [.sl none 0 0,.sl none 0 0,i64 3,.map (some 1)]),some (.map [] 0)],pt 3 0,[(3,some (.cells [.sl none 0 0,.sl none 0 0,i64 3,.map (some 2)])),(2,some (.map [] 0))],4⟩
noncomputable def es21:=addG es20 en20
noncomputable def en21:EntG:=⟨572,[(none,0),(some 0,3)],[pt 0 0,.str [97]],[some (.cells [.sl none 0 0,.sl none 0 0,i64 1,.map (some 1)]),none],.sl none 0 0,[],2⟩
noncomputable def es22:=addG es21 en21
noncomputable def en22:EntG:=⟨611,[(none,0),(none,6),(none,7),(none,8),(some 0,0)],[pt 0 0,.agg [.str [97],i64 1,i64 1,.sl none 0 0,.bool false,.slu 1 0 1 1,.slu 2 0 64 1,.slu 3 0 108 1]],[some (.cells [.slu 4 0 1 8]),none,none,none,some (.row [.str [97],i64 1,i64 1,.sl none 0 0,.bool false,.slu 1 0 1 1,.slu 2 0 64 1,.slu 3 0 108 1])],.bool false,[],5⟩
noncomputable def es23:=addG es22 en22
noncomputable def en23:EntG:=⟨650,[(none,1),(some 0,5),(some 0,6)],[.str [97],.slu 0 0 1 7],[some (.row [.str [97],i64 1,i64 1,.sl none 0 0,.bool false,.slu 1 0 1 1,.slu 2 0 64 1]),some (.row [u8 118]),some (.row bt4)],.bool true,[],3⟩
noncomputable def es24:=addG es23 en23
noncomputable def en24:EntG:=⟨299,[(none,0),(some 0,5),(some 0,6)],[.slu 0 0 1 7],[some (.row [.str [97],i64 1,i64 1,.sl none 0 0,.bool false,.slu 1 0 1 1,.slu 2 0 64 1]),some (.row [u8 118]),some (.row bt4)],.slu 5 0 1 7,[(5,some (.row [.str [97],i64 1,i64 1,.sl none 0 0,.bool false,.slu 3 0 1 1,.slu 4 0 64 1])),(4,some (.row bt4)),(3,some (.row [u8 118]))],6⟩
noncomputable def es25:=addG es24 en24
noncomputable def en25:EntG:=⟨531,[(none,0),(some 0,5),(some 0,6)],[.slu 0 0 1 7],[some (.row [.str [97],i64 1,i64 1,.sl none 0 0,.bool false,.slu 1 0 1 1,.slu 2 0 64 1]),some (.row [u8 118]),some (.row bt4)],.tup [.slu 3 0 124 1,i64 0],[(3,some (.row (hb 124 0x0000000000000001000000000000006c010000000000000001610000000000000001000000000000000100000000000000000000000000000000017627a1d5e01e12b155cb1891887b9b962d65d01eb4fccb6186e733ea5b70bb8a39ef2d282b3fe9b2654d5a8adf9c920d509d2257cff537a64da8eaec8754d6a209)))],4⟩
noncomputable def es26:=addG es25 en25
noncomputable def en26:EntG:=⟨673,[(none,1)],[.agg [u8 1,.slu 0 0 108 1]],[some (.row bt5)],.tup [.slu 1 0 125 1,i64 0],[(1,some (.row (hb 125 0x000000000000006d01010000000000000001610000000000000001000000000000000100000000000000000000000000000000017627a1d5e01e12b155cb1891887b9b962d65d01eb4fccb6186e733ea5b70bb8a39ef2d282b3fe9b2654d5a8adf9c920d509d2257cff537a64da8eaec8754d6a209000021fb00048cd5)))],2⟩
noncomputable def es27:=addG es26 en26
noncomputable def en27:EntG:=⟨120,[(none,0),(some 0,0),(some 0,1),(some 0,2),(some 0,3),(some 1,3),(some 2,0),(some 2,1),(some 2,3),(some 3,3),(some 4,3),(some 6,1),(some 11,5),(some 11,6)],[pt 0 0],[some (.cells [pt 1 0,pt 2 0,pt 3 0,pt 4 0,.bool true]),some (.cells [.sl none 0 0,.sl none 0 0,i64 0,.map (some 5)]),some (.cells [.slu 6 0 1 2,.slu 7 0 1 1,i64 1,.map (some 8)]),some (.cells [.sl none 0 0,.sl none 0 0,i64 2,.map (some 9)]),some (.cells [.sl none 0 0,.sl none 0 0,i64 3,.map (some 10)]),none,some (.row [.str [97],.slu 11 0 1 7]),none,none,none,none,some (.row [.str [97],i64 1,i64 1,.sl none 0 0,.bool false,.slu 12 0 1 1,.slu 13 0 64 1]),some (.row [u8 118]),some (.row bt4)],.slu 17 0 1 2,[(17,some (.row [.str [97],.slu 16 0 1 7])),(16,some (.row [.str [97],i64 1,i64 1,.sl none 0 0,.bool false,.slu 14 0 1 1,.slu 15 0 64 1])),(15,some (.row bt4)),(14,some (.row [u8 118]))],18⟩
noncomputable def es28:=addG es27 en27
noncomputable def en28:EntG:=⟨136,[(none,0)],[.slu 0 0 17 1],[some (.row (hb 17 0x0600000000000000010000000000000000))],.tup [.agg [u8 6,i64 1,i64 0,.str [],.str [],i64 0,i64 0,i64 0,.sl none 0 0,.sl none 0 0,.sl none 0 0,.sl none 0 0,.sl none 0 0,u8 0,.sl none 0 0,.sl none 0 0,.sl none 0 0,.sl none 0 0,i64 0,i64 0,i64 0,.sl none 0 0,.sl none 0 0,i64 0,i64 0,i64 0,.sl none 0 0,.sl none 0 0,i64 0],i64 0],[],1⟩
noncomputable def es29:=addG es28 en28
noncomputable def en29:EntG:=⟨171,[(none,0)],[.slu 0 0 2 1],[some (.row [i64 1,i64 2])],.tup [],[],1⟩
noncomputable def es30:=addG es29 en29
noncomputable def en30:EntG:=⟨171,[(none,0)],[.slu 0 0 2 1],[some (.row [i64 2,i64 1])],.tup [],[(0,some (.row [i64 1,i64 2]))],1⟩
noncomputable def es31:=addG es30 en30
noncomputable def en31:EntG:=⟨166,[],[.agg [u8 1,i64 1,i64 0,.str [],.str [],i64 0,i64 0,i64 0,.sl none 0 0,.sl none 0 0,.sl none 0 0,.sl none 0 0,.sl none 0 0,u8 0,.sl none 0 0,.sl none 0 0,.sl none 0 0,.sl none 0 0,i64 0,i64 0,i64 0,.sl none 0 0,.sl none 0 0,i64 0,i64 0,i64 0,.sl none 0 0,.sl none 0 0,i64 0]],[],.slu 0 0 17 1,[(0,some (.row bt6))],1⟩
noncomputable def es32:=addG es31 en31
noncomputable def en32:EntG:=⟨136,[(none,0)],[.slu 0 0 17 1],[some (.row bt6)],.tup [.agg [u8 1,i64 1,i64 0,.str [],.str [],i64 0,i64 0,i64 0,.sl none 0 0,.sl none 0 0,.sl none 0 0,.sl none 0 0,.sl none 0 0,u8 0,.sl none 0 0,.sl none 0 0,.sl none 0 0,.sl none 0 0,i64 0,i64 0,i64 0,.sl none 0 0,.sl none 0 0,i64 0,i64 0,i64 0,.sl none 0 0,.sl none 0 0,i64 0],i64 0],[],1⟩
noncomputable def es33:=addG es32 en32
noncomputable def en33:EntG:=⟨256,[(none,0)],[.slu 0 0 2 2,.fn 257 [] []],[some (.row [i64 1,i64 2,i64 2,i64 1])],.tup [],[],1⟩
noncomputable def es34:=addG es33 en33
noncomputable def en34:EntG:=⟨256,[(none,0)],[.slu 0 0 2 2,.fn 257 [] []],[some (.row [i64 2,i64 1,i64 1,i64 2])],.tup [],[(0,some (.row [i64 1,i64 2,i64 2,i64 1]))],1⟩
noncomputable def es35:=addG es34 en34
noncomputable def en35:EntG:=⟨529,[],[.agg [u8 1,.sl none 0 0,.sl none 0 0,.sl none 0 0]],[],.slu 0 0 64 1,[(0,some (.row bt7))],1⟩
noncomputable def es36:=addG es35 en35
noncomputable def en36:EntG:=⟨341,[(none,0),(some 0,3)],[pt 0 0,.str []],[some (.cells [.sl none 0 0,.sl none 0 0,i64 0,.map (some 1)]),some (.map [] 0)],.slu 3 0 64 1,[(1,some (.map [(.str [],.slu 2 0 64 1,0)] 1)),(3,some (.row bt7)),(2,some (.row bt7))],4⟩
noncomputable def es37:=addG es36 en36
noncomputable def en37:EntG:=⟨179,[],[i64 2],[],.sl (some (0,0)) 8 8,[(0,some (.cells (hb 8 0x0000000000000002)))],1⟩
noncomputable def es38:=addG es37 en37
noncomputable def en38:EntG:=⟨181,[(none,0)],[.sl (some (0,0)) 3 3],[some (.cells [i64 2,i64 0,i64 1])],.slu 1 0 24 1,[(1,some (.row bt8))],2⟩
noncomputable def es39:=addG es38 en38
noncomputable def en39:EntG:=⟨180,[(none,0),(some 0,0),(some 0,1),(some 0,2)],[.sl (some (0,0)) 3 3],[some (.cells [.sl (some (1,0)) 1 1,.slu 2 0 24 1,.slu 3 0 64 1]),some (.cells [u8 2]),some (.row bt8),some (.row bt9)],.slu 4 0 89 1,[(4,some (.row (hb 89 0x020000000000000002000000000000000000000000000000013ab9222054c91492d1d85c05555ca3185299e7b7f3a3c0895e0ae84d11bee1ee04e76782d2219bd1229d91ed962e68fb2bac29647dc5ddbfec286d13d379645a)))],5⟩
noncomputable def es40:=addG es39 en39
noncomputable def en40:EntG:=⟨317,[(none,3),(none,4)],[.agg [i64 2,i64 0,i64 1,.slu 0 0 64 1,.slu 1 0 64 1]],[some (.row bt9),some (.row (hb 64 0xd9619dcadac40a007cd4feff96933a8b3758862e74c7acc7f55f22f6d69d660d0f210c58e6feac2a114c4f8295475c4c0edbba710519b752c88d909fc16efe0a))],.tup [.slu 2 0 153 1,i64 0],[(2,some (.row (hb 153 0x020000000000000002000000000000000000000000000000013ab9222054c91492d1d85c05555ca3185299e7b7f3a3c0895e0ae84d11bee1ee04e76782d2219bd1229d91ed962e68fb2bac29647dc5ddbfec286d13d379645ad9619dcadac40a007cd4feff96933a8b3758862e74c7acc7f55f22f6d69d660d0f210c58e6feac2a114c4f8295475c4c0edbba710519b752c88d909fc16efe0a)))],3⟩
noncomputable def es41:=addG es40 en40
noncomputable def en41:EntG:=⟨179,[],[i64 154],[],.sl (some (0,0)) 8 8,[(0,some (.cells (hb 8 0x000000000000009a)))],1⟩
noncomputable def es42:=addG es41 en41
noncomputable def en42:EntG:=⟨179,[],[i64 153],[],.sl (some (0,0)) 8 8,[(0,some (.cells (hb 8 0x0000000000000099)))],1⟩
noncomputable def es43:=addG es42 en42
noncomputable def en43:EntG:=⟨179,[],[i64 64],[],.sl (some (0,0)) 8 8,[(0,some (.cells (hb 8 0x0000000000000040)))],1⟩
noncomputable def es44:=addG es43 en43
noncomputable def en44:EntG:=⟨178,[(none,0)],[.slu 0 0 64 1],[some (.row bt7)],.slu 1 0 72 1,[(1,some (.row (hb 72 0x0000000000000040b8244d028981d693af7b456af8efa4cad63d282e19ff14942c246e50d9351d22704a802a71c3580b6370de4ceb293c324a8423342557d4e5c38438f0e36910ee)))],2⟩
noncomputable def es45:=addG es44 en44
noncomputable def en45:EntG:=⟨279,[(none,0),(some 0,0)],[pt 0 0],[some (.cells [.slu 1 0 24 1,.bool true,.bool false]),some (.row bt8)],i64 2,[(0,some (.cells [.slu 1 8 16 1,.bool true,.bool false]))],2⟩
noncomputable def es46:=addG es45 en45
noncomputable def en46:EntG:=⟨279,[(none,0),(some 0,0)],[pt 0 0],[some (.cells [.slu 1 8 16 1,.bool true,.bool false]),some (.row bt8)],i64 0,[(0,some (.cells [.slu 1 16 8 1,.bool true,.bool false]))],2⟩
noncomputable def es47:=addG es46 en46
noncomputable def en47:EntG:=⟨279,[(none,0),(some 0,0)],[pt 0 0],[some (.cells [.slu 1 16 8 1,.bool true,.bool false]),some (.row bt8)],i64 1,[(0,some (.cells [.em 1,.bool true,.bool false]))],2⟩
noncomputable def es48:=addG es47 en47
noncomputable def en48:EntG:=⟨221,[(none,3),(none,4)],[.agg [i64 2,i64 0,i64 1,.slu 0 0 64 1,.slu 1 0 64 1]],[none,none],.bool true,[],2⟩
noncomputable def es49:=addG es48 en48
noncomputable def en49:EntG:=⟨108,[(none,3),(none,4)],[.agg [i64 1,i64 0,i64 1,.slu 0 0 64 1,.slu 1 0 64 1]],[some (.row bt9),none],.slu 2 0 89 1,[(2,some (.row (hb 89 0x020000000000000001000000000000000000000000000000013ab9222054c91492d1d85c05555ca3185299e7b7f3a3c0895e0ae84d11bee1ee04e76782d2219bd1229d91ed962e68fb2bac29647dc5ddbfec286d13d379645a)))],3⟩
noncomputable def es50:=addG es49 en49
noncomputable def en50:EntG:=⟨42,[(none,0),(some 0,0),(some 0,1),(some 0,3),(some 0,4),(some 0,5),(some 0,8),(some 1,0),(some 1,1),(some 1,2),(some 1,3),(some 2,4),(some 2,5),(some 7,3),(some 8,0),(some 8,1),(some 8,3),(some 9,3),(some 10,3),(some 14,1),(some 19,5),(some 19,6)],[pt 0 0],[some (.cells [pt 1 0,.map (some 2),.sl none 0 0,.map (some 3),pt 4 0,pt 5 0,i64 0,i64 1,.slu 6 0 32 1]),some (.cells [pt 7 0,pt 8 0,pt 9 0,pt 10 0,.bool true]),some (.map [(i64 0,.agg [i64 1,i64 0,i64 1,.slu 11 0 64 1,.slu 12 0 64 1],0)] 1),some (.map [] 0),none,none,none,some (.cells [.sl none 0 0,.sl none 0 0,i64 0,.map (some 13)]),some (.cells [.slu 14 0 1 2,.slu 15 0 1 1,i64 1,.map (some 16)]),some (.cells [.sl none 0 0,.sl none 0 0,i64 2,.map (some 17)]),some (.cells [.sl none 0 0,.sl none 0 0,i64 3,.map (some 18)]),some (.row bt9),some (.row bt10),none,some (.row [.str [97],.slu 19 0 1 7]),none,none,none,none,some (.row [.str [97],i64 1,i64 1,.sl none 0 0,.bool false,.slu 20 0 1 1,.slu 21 0 64 1]),some (.row [u8 118]),some (.row bt4)],.agg [.slu 25 0 1 2,.slu 28 0 1 5,.sl none 0 0,.sl none 0 0],[(25,some (.row [.str [97],.slu 24 0 1 7])),(24,some (.row [.str [97],i64 1,i64 1,.sl none 0 0,.bool false,.slu 22 0 1 1,.slu 23 0 64 1])),(23,some (.row bt4)),(22,some (.row [u8 118])),(28,some (.row [i64 1,i64 0,i64 1,.slu 26 0 64 1,.slu 27 0 64 1])),(27,some (.row bt10)),(26,some (.row bt9))],29⟩
noncomputable def es51:=addG es50 en50
noncomputable def en51:EntG:=⟨221,[(none,3),(none,4)],[.agg [i64 1,i64 0,i64 1,.slu 0 0 64 1,.slu 1 0 64 1]],[none,none],.bool true,[],2⟩
noncomputable def es52:=addG es51 en51
noncomputable def en52:EntG:=⟨136,[(none,0)],[.slu 0 0 242 1],[some (.row (hb 242 0x0200000000000000010000000000000099020000000000000001000000000000000000000000000000013ab9222054c91492d1d85c05555ca3185299e7b7f3a3c0895e0ae84d11bee1ee04e76782d2219bd1229d91ed962e68fb2bac29647dc5ddbfec286d13d379645a44d4962b0cf5f4087d8b9942cca0cb19aefcbcc5e97e9fb841f8f0347a9db38150ee9ded50d9a7f1e620172b9a6b9e5298f34adc9ccab3c9b4c16f23b132e50f0000000000000040b8244d028981d693af7b456af8efa4cad63d282e19ff14942c246e50d9351d22704a802a71c3580b6370de4ceb293c324a8423342557d4e5c38438f0e36910ee))],.tup [.agg [u8 2,i64 1,i64 0,.str [],.str [],i64 1,i64 0,i64 1,.slu 1 0 64 1,.slu 2 0 64 1,.slu 3 0 64 1,.sl none 0 0,.sl none 0 0,u8 0,.sl none 0 0,.sl none 0 0,.sl none 0 0,.sl none 0 0,i64 0,i64 0,i64 0,.sl none 0 0,.sl none 0 0,i64 0,i64 0,i64 0,.sl none 0 0,.sl none 0 0,i64 0],i64 0],[(1,some (.row bt9)),(2,some (.row bt10)),(3,some (.row bt7))],4⟩
noncomputable def es53:=addG es52 en52
noncomputable def en53:EntG:=⟨228,[(none,0),(some 0,0),(some 1,1),(some 2,0)],[pt 0 0,i64 2],[some (.cells [.map (some 1),i64 8,i64 1000]),some (.map [(i64 2,pt 2 0,2)] 3),some (.cells [.slu 3 0 1 1,i64 0]),none],.bool true,[],4⟩
noncomputable def es54:=addG es53 en53
noncomputable def en54:EntG:=⟨166,[],[.agg [u8 1,i64 2,i64 0,.str [],.str [],i64 0,i64 0,i64 0,.sl none 0 0,.sl none 0 0,.sl none 0 0,.sl none 0 0,.sl none 0 0,u8 0,.sl none 0 0,.sl none 0 0,.sl none 0 0,.sl none 0 0,i64 0,i64 0,i64 0,.sl none 0 0,.sl none 0 0,i64 0,i64 0,i64 0,.sl none 0 0,.sl none 0 0,i64 0]],[],.slu 0 0 17 1,[(0,some (.row bt11))],1⟩
noncomputable def es55:=addG es54 en54
noncomputable def en55:EntG:=⟨136,[(none,0)],[.slu 0 0 17 1],[some (.row bt11)],.tup [.agg [u8 1,i64 2,i64 0,.str [],.str [],i64 0,i64 0,i64 0,.sl none 0 0,.sl none 0 0,.sl none 0 0,.sl none 0 0,.sl none 0 0,u8 0,.sl none 0 0,.sl none 0 0,.sl none 0 0,.sl none 0 0,i64 0,i64 0,i64 0,.sl none 0 0,.sl none 0 0,i64 0,i64 0,i64 0,.sl none 0 0,.sl none 0 0,i64 0],i64 0],[],1⟩
noncomputable def es56:=addG es55 en55
noncomputable def en56:EntG:=⟨179,[],[i64 3],[],.sl (some (0,0)) 8 8,[(0,some (.cells (hb 8 0x0000000000000003)))],1⟩
noncomputable def es57:=addG es56 en56
noncomputable def en57:EntG:=⟨166,[],[.agg [u8 1,i64 3,i64 1,.str [],.str [],i64 0,i64 0,i64 0,.sl none 0 0,.sl none 0 0,.sl none 0 0,.sl none 0 0,.sl none 0 0,u8 0,.sl none 0 0,.sl none 0 0,.sl none 0 0,.sl none 0 0,i64 0,i64 0,i64 0,.sl none 0 0,.sl none 0 0,i64 0,i64 0,i64 0,.sl none 0 0,.sl none 0 0,i64 0]],[],.slu 0 0 17 1,[(0,some (.row bt12))],1⟩
noncomputable def es58:=addG es57 en57
noncomputable def en58:EntG:=⟨136,[(none,0)],[.slu 0 0 17 1],[some (.row bt12)],.tup [.agg [u8 1,i64 3,i64 1,.str [],.str [],i64 0,i64 0,i64 0,.sl none 0 0,.sl none 0 0,.sl none 0 0,.sl none 0 0,.sl none 0 0,u8 0,.sl none 0 0,.sl none 0 0,.sl none 0 0,.sl none 0 0,i64 0,i64 0,i64 0,.sl none 0 0,.sl none 0 0,i64 0,i64 0,i64 0,.sl none 0 0,.sl none 0 0,i64 0],i64 0],[],1⟩
noncomputable def es59:=addG es58 en58
noncomputable def en59:EntG:=⟨108,[(none,3),(none,4)],[.agg [i64 2,i64 1,i64 1,.slu 0 0 64 1,.slu 1 0 64 1]],[some (.row bt13),none],.slu 2 0 89 1,[(2,some (.row (hb 89 0x02000000000000000200000000000000010000000000000001b1aa36ac958800f4585478f186c4e4bfd6f9e5a1cc6c55222e20bab52e923d53128085aaf95e81769dce2998154915c93d635b19bb43b7221279c7992c0619be)))],3⟩
noncomputable def es60:=addG es59 en59
noncomputable def en60:EntG:=⟨171,[(none,0)],[.slu 0 0 2 1],[some (.row [i64 0,i64 1])],.tup [],[],1⟩
noncomputable def es61:=addG es60 en60
noncomputable def en61:EntG:=⟨171,[(none,0)],[.slu 0 0 2 1],[some (.row [i64 1,i64 0])],.tup [],[(0,some (.row [i64 0,i64 1]))],1⟩
noncomputable def es62:=addG es61 en61
noncomputable def en62:EntG:=⟨136,[(none,0)],[.slu 0 0 242 1],[some (.row (hb 242 0x020000000000000003000000000000009902000000000000000200000000000000010000000000000001b1aa36ac958800f4585478f186c4e4bfd6f9e5a1cc6c55222e20bab52e923d53128085aaf95e81769dce2998154915c93d635b19bb43b7221279c7992c0619be8d2ce8fdff502ab40665e9627fb51b4ef5866bd9c6d5f468e4e0720e2f491360ec03c000126c3cf911b23876dc25981349e05169efadf24d2b222988ad4150050000000000000040b8244d028981d693af7b456af8efa4cad63d282e19ff14942c246e50d9351d22704a802a71c3580b6370de4ceb293c324a8423342557d4e5c38438f0e36910ee))],.tup [.agg [u8 2,i64 3,i64 0,.str [],.str [],i64 2,i64 1,i64 1,.slu 1 0 64 1,.slu 2 0 64 1,.slu 3 0 64 1,.sl none 0 0,.sl none 0 0,u8 0,.sl none 0 0,.sl none 0 0,.sl none 0 0,.sl none 0 0,i64 0,i64 0,i64 0,.sl none 0 0,.sl none 0 0,i64 0,i64 0,i64 0,.sl none 0 0,.sl none 0 0,i64 0],i64 0],[(1,some (.row bt13)),(2,some (.row (hb 64 0x8d2ce8fdff502ab40665e9627fb51b4ef5866bd9c6d5f468e4e0720e2f491360ec03c000126c3cf911b23876dc25981349e05169efadf24d2b222988ad415005))),(3,some (.row bt7))],4⟩
noncomputable def es63:=addG es62 en62
noncomputable def en63:EntG:=⟨529,[(none,3),(some 0,1),(some 1,5),(some 1,6)],[.agg [u8 2,.sl none 0 0,.sl none 0 0,.sl (some (0,0)) 1 2]],[some (.cells [.str [97],.slu 1 0 1 7,.str [],.sl none 0 0]),some (.row [.str [97],i64 1,i64 1,.sl none 0 0,.bool false,.slu 2 0 1 1,.slu 3 0 64 1]),some (.row [u8 118]),some (.row bt4)],.slu 4 0 64 1,[(4,some (.row bt14))],5⟩
noncomputable def es64:=addG es63 en63
noncomputable def en64:EntG:=⟨528,[],[.str []],[],.slu 0 0 8 1,[(0,some (.row bt2))],1⟩
noncomputable def es65:=addG es64 en64
noncomputable def en65:EntG:=⟨97,[],[.agg [u8 3,i64 3,i64 0,.str [],.str [],i64 0,i64 0,i64 0,.sl none 0 0,.sl none 0 0,.sl none 0 0,.sl none 0 0,.sl none 0 0,u8 0,.sl none 0 0,.sl none 0 0,.sl none 0 0,.sl none 0 0,i64 0,i64 0,i64 0,.sl none 0 0,.sl none 0 0,i64 0,i64 0,i64 0,.sl none 0 0,.sl none 0 0,i64 0]],[],.tup [.slu 0 0 17 1,i64 0],[(0,some (.row bt15))],1⟩
noncomputable def es66:=addG es65 en65
noncomputable def en66:EntG:=⟨136,[(none,0)],[.slu 0 0 17 1],[some (.row bt15)],.tup [.agg [u8 3,i64 3,i64 0,.str [],.str [],i64 0,i64 0,i64 0,.sl none 0 0,.sl none 0 0,.sl none 0 0,.sl none 0 0,.sl none 0 0,u8 0,.sl none 0 0,.sl none 0 0,.sl none 0 0,.sl none 0 0,i64 0,i64 0,i64 0,.sl none 0 0,.sl none 0 0,i64 0,i64 0,i64 0,.sl none 0 0,.sl none 0 0,i64 0],i64 0],[],1⟩
noncomputable def es67:=addG es66 en66
noncomputable def en67:EntG:=⟨178,[],[.sl none 0 0],[],.slu 0 0 8 1,[(0,some (.row bt2))],1⟩
noncomputable def es68:=addG es67 en67
noncomputable def en68:EntG:=⟨178,[(none,0)],[.sl (some (0,0)) 0 0],[some (.cells [])],.slu 1 0 8 1,[(1,some (.row bt2))],2⟩
noncomputable def es69:=addG es68 en68
noncomputable def en69:EntG:=⟨136,[(none,0)],[.slu 0 0 49 1],[some (.row (hb 49 0x04000000000000000300000000000000000000000000000001000000000000000000000000000000000000000000000000))],.tup [.agg [u8 4,i64 3,i64 0,.str [],.str [],i64 0,i64 0,i64 0,.sl none 0 0,.sl none 0 0,.sl none 0 0,.sl none 0 0,.sl none 0 0,u8 1,.sl (some (1,0)) 0 0,.sl (some (2,0)) 0 0,.sl none 0 0,.sl none 0 0,i64 0,i64 0,i64 0,.sl none 0 0,.sl none 0 0,i64 0,i64 0,i64 0,.sl none 0 0,.sl none 0 0,i64 0],i64 0],[(1,some (.cells [])),(2,some (.cells []))],3⟩
noncomputable def es70:=addG es69 en69
noncomputable def en70:EntG:=⟨179,[],[i64 4],[],.sl (some (0,0)) 8 8,[(0,some (.cells (hb 8 0x0000000000000004)))],1⟩
noncomputable def es71:=addG es70 en70
noncomputable def en71:EntG:=⟨166,[],[.agg [u8 1,i64 4,i64 2,.str [],.str [],i64 0,i64 0,i64 0,.sl none 0 0,.sl none 0 0,.sl none 0 0,.sl none 0 0,.sl none 0 0,u8 0,.sl none 0 0,.sl none 0 0,.sl none 0 0,.sl none 0 0,i64 0,i64 0,i64 0,.sl none 0 0,.sl none 0 0,i64 0,i64 0,i64 0,.sl none 0 0,.sl none 0 0,i64 0]],[],.slu 0 0 17 1,[(0,some (.row bt16))],1⟩
noncomputable def es72:=addG es71 en71
noncomputable def en72:EntG:=⟨136,[(none,0)],[.slu 0 0 17 1],[some (.row bt16)],.tup [.agg [u8 1,i64 4,i64 2,.str [],.str [],i64 0,i64 0,i64 0,.sl none 0 0,.sl none 0 0,.sl none 0 0,.sl none 0 0,.sl none 0 0,u8 0,.sl none 0 0,.sl none 0 0,.sl none 0 0,.sl none 0 0,i64 0,i64 0,i64 0,.sl none 0 0,.sl none 0 0,i64 0,i64 0,i64 0,.sl none 0 0,.sl none 0 0,i64 0],i64 0],[],1⟩
noncomputable def es73:=addG es72 en72
noncomputable def en73:EntG:=⟨341,[(none,0),(some 0,3)],[pt 0 0,.str []],[some (.cells [.sl none 0 0,.sl none 0 0,i64 2,.map (some 1)]),some (.map [] 0)],.slu 3 0 64 1,[(1,some (.map [(.str [],.slu 2 0 64 1,0)] 1)),(3,some (.row bt7)),(2,some (.row bt7))],4⟩
noncomputable def es74:=addG es73 en73
noncomputable def en74:EntG:=⟨108,[(none,3),(none,4)],[.agg [i64 2,i64 2,i64 1,.slu 0 0 64 1,.slu 1 0 64 1]],[some (.row bt17),none],.slu 2 0 89 1,[(2,some (.row (hb 89 0x02000000000000000200000000000000020000000000000001eae76fa414285c47e97d2bec2973587b78da53243dc53af59beb04e80f291c6f75c79c96eb38b1c55d0f6be2b6d100641d72d73b7876ba9f61d9296a0c223805)))],3⟩
noncomputable def es75:=addG es74 en74
noncomputable def en75:EntG:=⟨171,[(none,0)],[.slu 0 0 3 1],[some (.row [i64 0,i64 1,i64 2])],.tup [],[],1⟩
noncomputable def es76:=addG es75 en75
noncomputable def en76:EntG:=⟨171,[(none,0)],[.slu 0 0 3 1],[some (.row [i64 0,i64 2,i64 1])],.tup [],[(0,some (.row [i64 0,i64 1,i64 2]))],1⟩
noncomputable def es77:=addG es76 en76
noncomputable def en77:EntG:=⟨171,[(none,0)],[.slu 0 0 3 1],[some (.row [i64 1,i64 0,i64 2])],.tup [],[(0,some (.row [i64 0,i64 1,i64 2]))],1⟩
noncomputable def es78:=addG es77 en77
noncomputable def en78:EntG:=⟨171,[(none,0)],[.slu 0 0 3 1],[some (.row [i64 1,i64 2,i64 0])],.tup [],[(0,some (.row [i64 0,i64 1,i64 2]))],1⟩
noncomputable def es79:=addG es78 en78
noncomputable def en79:EntG:=⟨171,[(none,0)],[.slu 0 0 3 1],[some (.row [i64 2,i64 0,i64 1])],.tup [],[(0,some (.row [i64 0,i64 1,i64 2]))],1⟩
noncomputable def es80:=addG es79 en79
noncomputable def en80:EntG:=⟨171,[(none,0)],[.slu 0 0 3 1],[some (.row [i64 2,i64 1,i64 0])],.tup [],[(0,some (.row [i64 0,i64 1,i64 2]))],1⟩
noncomputable def es81:=addG es80 en80
noncomputable def en81:EntG:=⟨136,[(none,0)],[.slu 0 0 242 1],[some (.row (hb 242 0x020000000000000004000000000000009902000000000000000200000000000000020000000000000001eae76fa414285c47e97d2bec2973587b78da53243dc53af59beb04e80f291c6f75c79c96eb38b1c55d0f6be2b6d100641d72d73b7876ba9f61d9296a0c223805ebef4494dcd35b5828471ef6007801e688def1f1197919c695d5a271d0a40f27ba3ab69d0bcd65a07812f74c5065a03dcca8619e0623e71fd6dd7589ffb669050000000000000040b8244d028981d693af7b456af8efa4cad63d282e19ff14942c246e50d9351d22704a802a71c3580b6370de4ceb293c324a8423342557d4e5c38438f0e36910ee))],.tup [.agg [u8 2,i64 4,i64 0,.str [],.str [],i64 2,i64 2,i64 1,.slu 1 0 64 1,.slu 2 0 64 1,.slu 3 0 64 1,.sl none 0 0,.sl none 0 0,u8 0,.sl none 0 0,.sl none 0 0,.sl none 0 0,.sl none 0 0,i64 0,i64 0,i64 0,.sl none 0 0,.sl none 0 0,i64 0,i64 0,i64 0,.sl none 0 0,.sl none 0 0,i64 0],i64 0],[(1,some (.row bt17)),(2,some (.row (hb 64 0xebef4494dcd35b5828471ef6007801e688def1f1197919c695d5a271d0a40f27ba3ab69d0bcd65a07812f74c5065a03dcca8619e0623e71fd6dd7589ffb66905))),(3,some (.row bt7))],4⟩
noncomputable def es82:=addG es81 en81
noncomputable def en82:EntG:=⟨179,[],[i64 5],[],.sl (some (0,0)) 8 8,[(0,some (.cells (hb 8 0x0000000000000005)))],1⟩
noncomputable def es83:=addG es82 en82
noncomputable def en83:EntG:=⟨166,[],[.agg [u8 1,i64 5,i64 3,.str [],.str [],i64 0,i64 0,i64 0,.sl none 0 0,.sl none 0 0,.sl none 0 0,.sl none 0 0,.sl none 0 0,u8 0,.sl none 0 0,.sl none 0 0,.sl none 0 0,.sl none 0 0,i64 0,i64 0,i64 0,.sl none 0 0,.sl none 0 0,i64 0,i64 0,i64 0,.sl none 0 0,.sl none 0 0,i64 0]],[],.slu 0 0 17 1,[(0,some (.row bt18))],1⟩
noncomputable def es84:=addG es83 en83
noncomputable def en84:EntG:=⟨136,[(none,0)],[.slu 0 0 17 1],[some (.row bt18)],.tup [.agg [u8 1,i64 5,i64 3,.str [],.str [],i64 0,i64 0,i64 0,.sl none 0 0,.sl none 0 0,.sl none 0 0,.sl none 0 0,.sl none 0 0,u8 0,.sl none 0 0,.sl none 0 0,.sl none 0 0,.sl none 0 0,i64 0,i64 0,i64 0,.sl none 0 0,.sl none 0 0,i64 0,i64 0,i64 0,.sl none 0 0,.sl none 0 0,i64 0],i64 0],[],1⟩
noncomputable def es85:=addG es84 en84
noncomputable def en85:EntG:=⟨341,[(none,0),(some 0,3)],[pt 0 0,.str []],[some (.cells [.sl none 0 0,.sl none 0 0,i64 3,.map (some 1)]),some (.map [] 0)],.slu 3 0 64 1,[(1,some (.map [(.str [],.slu 2 0 64 1,0)] 1)),(3,some (.row bt7)),(2,some (.row bt7))],4⟩
noncomputable def es86:=addG es85 en85
noncomputable def en86:EntG:=⟨108,[(none,3),(none,4)],[.agg [i64 2,i64 3,i64 1,.slu 0 0 64 1,.slu 1 0 64 1]],[some (.row bt19),none],.slu 2 0 89 1,[(2,some (.row (hb 89 0x0200000000000000020000000000000003000000000000000137a1de6fc96fac73a886fafa02697eac568b3645876f7aa9ce8ccc1d38705378d1c0b0cbe5368addf60b49237eb3ba90574adecd63eccb621d9f91bce5293b1c)))],3⟩
noncomputable def es87:=addG es86 en86
noncomputable def en87:EntG:=⟨171,[(none,0)],[.slu 0 0 4 1],[some (.row [i64 0,i64 1,i64 2,i64 3])],.tup [],[],1⟩
noncomputable def es88:=addG es87 en87
noncomputable def en88:EntG:=⟨171,[(none,0)],[.slu 0 0 4 1],[some (.row [i64 0,i64 1,i64 3,i64 2])],.tup [],[(0,some (.row [i64 0,i64 1,i64 2,i64 3]))],1⟩
noncomputable def es89:=addG es88 en88
noncomputable def en89:EntG:=⟨171,[(none,0)],[.slu 0 0 4 1],[some (.row [i64 0,i64 2,i64 1,i64 3])],.tup [],[(0,some (.row [i64 0,i64 1,i64 2,i64 3]))],1⟩
noncomputable def es90:=addG es89 en89
noncomputable def en90:EntG:=⟨171,[(none,0)],[.slu 0 0 4 1],[some (.row [i64 0,i64 2,i64 3,i64 1])],.tup [],[(0,some (.row [i64 0,i64 1,i64 2,i64 3]))],1⟩
noncomputable def es91:=addG es90 en90
noncomputable def en91:EntG:=⟨171,[(none,0)],[.slu 0 0 4 1],[some (.row [i64 0,i64 3,i64 1,i64 2])],.tup [],[(0,some (.row [i64 0,i64 1,i64 2,i64 3]))],1⟩
noncomputable def es92:=addG es91 en91
noncomputable def en92:EntG:=⟨171,[(none,0)],[.slu 0 0 4 1],[some (.row [i64 0,i64 3,i64 2,i64 1])],.tup [],[(0,some (.row [i64 0,i64 1,i64 2,i64 3]))],1⟩
noncomputable def es93:=addG es92 en92
noncomputable def en93:EntG:=⟨171,[(none,0)],[.slu 0 0 4 1],[some (.row [i64 1,i64 0,i64 2,i64 3])],.tup [],[(0,some (.row [i64 0,i64 1,i64 2,i64 3]))],1⟩
noncomputable def es94:=addG es93 en93
noncomputable def en94:EntG:=⟨171,[(none,0)],[.slu 0 0 4 1],[some (.row [i64 1,i64 0,i64 3,i64 2])],.tup [],[(0,some (.row [i64 0,i64 1,i64 2,i64 3]))],1⟩
noncomputable def es95:=addG es94 en94
noncomputable def en95:EntG:=⟨171,[(none,0)],[.slu 0 0 4 1],[some (.row [i64 1,i64 2,i64 0,i64 3])],.tup [],[(0,some (.row [i64 0,i64 1,i64 2,i64 3]))],1⟩
noncomputable def es96:=addG es95 en95
noncomputable def en96:EntG:=⟨171,[(none,0)],[.slu 0 0 4 1],[some (.row [i64 1,i64 2,i64 3,i64 0])],.tup [],[(0,some (.row [i64 0,i64 1,i64 2,i64 3]))],1⟩
noncomputable def es97:=addG es96 en96
noncomputable def en97:EntG:=⟨171,[(none,0)],[.slu 0 0 4 1],[some (.row [i64 1,i64 3,i64 0,i64 2])],.tup [],[(0,some (.row [i64 0,i64 1,i64 2,i64 3]))],1⟩
noncomputable def es98:=addG es97 en97
noncomputable def en98:EntG:=⟨171,[(none,0)],[.slu 0 0 4 1],[some (.row [i64 1,i64 3,i64 2,i64 0])],.tup [],[(0,some (.row [i64 0,i64 1,i64 2,i64 3]))],1⟩
noncomputable def es99:=addG es98 en98
noncomputable def en99:EntG:=⟨171,[(none,0)],[.slu 0 0 4 1],[some (.row [i64 2,i64 0,i64 1,i64 3])],.tup [],[(0,some (.row [i64 0,i64 1,i64 2,i64 3]))],1⟩
noncomputable def es100:=addG es99 en99
noncomputable def en100:EntG:=⟨171,[(none,0)],[.slu 0 0 4 1],[some (.row [i64 2,i64 0,i64 3,i64 1])],.tup [],[(0,some (.row [i64 0,i64 1,i64 2,i64 3]))],1⟩
noncomputable def es101:=addG es100 en100
noncomputable def en101:EntG:=⟨171,[(none,0)],[.slu 0 0 4 1],[some (.row [i64 2,i64 1,i64 0,i64 3])],.tup [],[(0,some (.row [i64 0,i64 1,i64 2,i64 3]))],1⟩
noncomputable def es102:=addG es101 en101
noncomputable def en102:EntG:=⟨171,[(none,0)],[.slu 0 0 4 1],[some (.row [i64 2,i64 1,i64 3,i64 0])],.tup [],[(0,some (.row [i64 0,i64 1,i64 2,i64 3]))],1⟩
noncomputable def es103:=addG es102 en102
noncomputable def en103:EntG:=⟨171,[(none,0)],[.slu 0 0 4 1],[some (.row [i64 2,i64 3,i64 0,i64 1])],.tup [],[(0,some (.row [i64 0,i64 1,i64 2,i64 3]))],1⟩
noncomputable def es104:=addG es103 en103
noncomputable def en104:EntG:=⟨171,[(none,0)],[.slu 0 0 4 1],[some (.row [i64 2,i64 3,i64 1,i64 0])],.tup [],[(0,some (.row [i64 0,i64 1,i64 2,i64 3]))],1⟩
noncomputable def es105:=addG es104 en104
noncomputable def en105:EntG:=⟨171,[(none,0)],[.slu 0 0 4 1],[some (.row [i64 3,i64 0,i64 1,i64 2])],.tup [],[(0,some (.row [i64 0,i64 1,i64 2,i64 3]))],1⟩
noncomputable def es106:=addG es105 en105
noncomputable def en106:EntG:=⟨171,[(none,0)],[.slu 0 0 4 1],[some (.row [i64 3,i64 0,i64 2,i64 1])],.tup [],[(0,some (.row [i64 0,i64 1,i64 2,i64 3]))],1⟩
noncomputable def es107:=addG es106 en106
noncomputable def en107:EntG:=⟨171,[(none,0)],[.slu 0 0 4 1],[some (.row [i64 3,i64 1,i64 0,i64 2])],.tup [],[(0,some (.row [i64 0,i64 1,i64 2,i64 3]))],1⟩
noncomputable def es108:=addG es107 en107
noncomputable def en108:EntG:=⟨171,[(none,0)],[.slu 0 0 4 1],[some (.row [i64 3,i64 1,i64 2,i64 0])],.tup [],[(0,some (.row [i64 0,i64 1,i64 2,i64 3]))],1⟩
noncomputable def es109:=addG es108 en108
noncomputable def en109:EntG:=⟨171,[(none,0)],[.slu 0 0 4 1],[some (.row [i64 3,i64 2,i64 0,i64 1])],.tup [],[(0,some (.row [i64 0,i64 1,i64 2,i64 3]))],1⟩
noncomputable def es110:=addG es109 en109
noncomputable def en110:EntG:=⟨171,[(none,0)],[.slu 0 0 4 1],[some (.row [i64 3,i64 2,i64 1,i64 0])],.tup [],[(0,some (.row [i64 0,i64 1,i64 2,i64 3]))],1⟩
noncomputable def es111:=addG es110 en110
noncomputable def en111:EntG:=⟨121,[(none,0),(some 0,0),(some 1,4),(some 1,5),(some 1,10),(some 1,11),(some 1,16),(some 1,17),(some 1,22),(some 1,23)],[.fn 204 [] [pt 0 0]],[some (.cells [.map (some 1)]),some (.map [(i64 0,.agg [i64 2,i64 0,i64 1,.slu 2 0 64 1,.slu 3 0 64 1],0),(i64 1,.agg [i64 2,i64 1,i64 1,.slu 4 0 64 1,.slu 5 0 64 1],1),(i64 2,.agg [i64 2,i64 2,i64 1,.slu 6 0 64 1,.slu 7 0 64 1],2),(i64 3,.agg [i64 2,i64 3,i64 1,.slu 8 0 64 1,.slu 9 0 64 1],3)] 4),none,none,none,none,none,none,none,none],.slu 10 0 4 1,[(10,some (.row [i64 0,i64 1,i64 2,i64 3]))],11⟩
noncomputable def es112:=addG es111 en111
noncomputable def en112:EntG:=⟨136,[(none,0)],[.slu 0 0 242 1],[some (.row (hb 242 0x02000000000000000500000000000000990200000000000000020000000000000003000000000000000137a1de6fc96fac73a886fafa02697eac568b3645876f7aa9ce8ccc1d38705378d1c0b0cbe5368addf60b49237eb3ba90574adecd63eccb621d9f91bce5293b1c0918011619eec1aaf38a8226ddd29c5c53caefad02b976de46ad451e55eb30be2f519458397c1fa0f2c27ada4b76740eedaf15a2eaab15c24c172c70789bee020000000000000040b8244d028981d693af7b456af8efa4cad63d282e19ff14942c246e50d9351d22704a802a71c3580b6370de4ceb293c324a8423342557d4e5c38438f0e36910ee))],.tup [.agg [u8 2,i64 5,i64 0,.str [],.str [],i64 2,i64 3,i64 1,.slu 1 0 64 1,.slu 2 0 64 1,.slu 3 0 64 1,.sl none 0 0,.sl none 0 0,u8 0,.sl none 0 0,.sl none 0 0,.sl none 0 0,.sl none 0 0,i64 0,i64 0,i64 0,.sl none 0 0,.sl none 0 0,i64 0,i64 0,i64 0,.sl none 0 0,.sl none 0 0,i64 0],i64 0],[(1,some (.row bt19)),(2,some (.row (hb 64 0x0918011619eec1aaf38a8226ddd29c5c53caefad02b976de46ad451e55eb30be2f519458397c1fa0f2c27ada4b76740eedaf15a2eaab15c24c172c70789bee02))),(3,some (.row bt7))],4⟩
noncomputable def es113:=addG es112 en112
noncomputable def en113:EntG:=⟨136,[(none,0)],[.slu 0 0 242 1],[some (.row (hb 242 0x0200000000000000020000000000000099020000000000000001000000000000000000000000000000013ab9222054c91492d1d85c05555ca3185299e7b7f3a3c0895e0ae84d11bee1ee04e76782d2219bd1229d91ed962e68fb2bac29647dc5ddbfec286d13d379645a44d4962b0cf5f4087d8b9942cca0cb19aefcbcc5e97e9fb841f8f0347a9db38150ee9ded50d9a7f1e620172b9a6b9e5298f34adc9ccab3c9b4c16f23b132e50f0000000000000040b8244d028981d693af7b456af8efa4cad63d282e19ff14942c246e50d9351d22704a802a71c3580b6370de4ceb293c324a8423342557d4e5c38438f0e36910ee))],.tup [.agg [u8 2,i64 2,i64 0,.str [],.str [],i64 1,i64 0,i64 1,.slu 1 0 64 1,.slu 2 0 64 1,.slu 3 0 64 1,.sl none 0 0,.sl none 0 0,u8 0,.sl none 0 0,.sl none 0 0,.sl none 0 0,.sl none 0 0,i64 0,i64 0,i64 0,.sl none 0 0,.sl none 0 0,i64 0,i64 0,i64 0,.sl none 0 0,.sl none 0 0,i64 0],i64 0],[(1,some (.row bt9)),(2,some (.row bt10)),(3,some (.row bt7))],4⟩
noncomputable def es114:=addG es113 en113
noncomputable def en114:EntG:=⟨228,[(none,0),(some 0,0),(some 1,1),(some 2,0)],[pt 0 0,i64 1],[some (.cells [.map (some 1),i64 8,i64 1000]),some (.map [(i64 1,pt 2 0,1)] 2),some (.cells [.slu 3 0 5 1,i64 0]),none],.bool true,[],4⟩
noncomputable def es115:=addG es114 en114
noncomputable def en115:EntG:=⟨108,[(none,3),(none,4)],[.agg [i64 1,i64 1,i64 1,.slu 0 0 64 1,.slu 1 0 64 1]],[some (.row bt20),none],.slu 2 0 89 1,[(2,some (.row (hb 89 0x020000000000000001000000000000000100000000000000012fb22eba542a42b3edbd89efd393a505c3c46e9c304a8c86b3a9272d7f8ec18fd15c85d97c9eb92c09b613a49607f3bdff6e30f618137c0609997ac8d121a634)))],3⟩
noncomputable def es116:=addG es115 en115
noncomputable def en116:EntG:=⟨136,[(none,0)],[.slu 0 0 242 1],[some (.row (hb 242 0x0200000000000000030000000000000099020000000000000001000000000000000100000000000000012fb22eba542a42b3edbd89efd393a505c3c46e9c304a8c86b3a9272d7f8ec18fd15c85d97c9eb92c09b613a49607f3bdff6e30f618137c0609997ac8d121a63490c649ab5065651638d950daa2ad61fd5171e429e9b32de591be3999e5af7faab3dc5ca7fe627afb178d16b6def38968c8404efb46c95e03aaa090f2fa001a000000000000000040a1b1b8b605fa2d2383254824c8d2634ad9e4b64a826b4745bf49212ac57bc8619bd636d72c23a0800837b337e96e51cbb2d43e431bf24fd4ce0c9b6243bebe79))],.tup [.agg [u8 2,i64 3,i64 0,.str [],.str [],i64 1,i64 1,i64 1,.slu 1 0 64 1,.slu 2 0 64 1,.slu 3 0 64 1,.sl none 0 0,.sl none 0 0,u8 0,.sl none 0 0,.sl none 0 0,.sl none 0 0,.sl none 0 0,i64 0,i64 0,i64 0,.sl none 0 0,.sl none 0 0,i64 0,i64 0,i64 0,.sl none 0 0,.sl none 0 0,i64 0],i64 0],[(1,some (.row bt20)),(2,some (.row (hb 64 0x90c649ab5065651638d950daa2ad61fd5171e429e9b32de591be3999e5af7faab3dc5ca7fe627afb178d16b6def38968c8404efb46c95e03aaa090f2fa001a00))),(3,some (.row bt14))],4⟩
noncomputable def es117:=addG es116 en116
noncomputable def en117:EntG:=⟨136,[(none,0)],[.slu 0 0 190 1],[some (.row (hb 190 0x04000000000000000300000000000000000000000000000002000000000000000000000000000000000000000000000001000000000000000161000000000000007c0000000000000001000000000000006c010000000000000001610000000000000001000000000000000100000000000000000000000000000000017627a1d5e01e12b155cb1891887b9b962d65d01eb4fccb6186e733ea5b70bb8a39ef2d282b3fe9b2654d5a8adf9c920d509d2257cff537a64da8eaec8754d6a209))],.tup [.agg [u8 4,i64 3,i64 0,.str [],.str [],i64 0,i64 0,i64 0,.sl none 0 0,.sl none 0 0,.sl none 0 0,.sl none 0 0,.sl none 0 0,u8 2,.sl (some (1,0)) 0 0,.sl (some (2,0)) 0 0,.slu 6 0 1 2,.sl none 0 0,i64 0,i64 0,i64 0,.sl none 0 0,.sl none 0 0,i64 0,i64 0,i64 0,.sl none 0 0,.sl none 0 0,i64 0],i64 0],[(1,some (.cells [])),(2,some (.cells [])),(6,some (.row [.str [97],.slu 5 0 1 7])),(5,some (.row [.str [97],i64 1,i64 1,.sl none 0 0,.bool false,.slu 3 0 1 1,.slu 4 0 64 1])),(4,some (.row bt4)),(3,some (.row [u8 118]))],7⟩
noncomputable def es118:=addG es117 en117
noncomputable def en118:EntG:=⟨108,[(none,3),(none,4)],[.agg [i64 1,i64 2,i64 1,.slu 0 0 64 1,.slu 1 0 64 1]],[some (.row bt17),none],.slu 2 0 89 1,[(2,some (.row (hb 89 0x02000000000000000100000000000000020000000000000001eae76fa414285c47e97d2bec2973587b78da53243dc53af59beb04e80f291c6f75c79c96eb38b1c55d0f6be2b6d100641d72d73b7876ba9f61d9296a0c223805)))],3⟩
noncomputable def es119:=addG es118 en118
noncomputable def en119:EntG:=⟨136,[(none,0)],[.slu 0 0 242 1],[some (.row (hb 242 0x020000000000000004000000000000009902000000000000000100000000000000020000000000000001eae76fa414285c47e97d2bec2973587b78da53243dc53af59beb04e80f291c6f75c79c96eb38b1c55d0f6be2b6d100641d72d73b7876ba9f61d9296a0c2238052c0522b1641e5677015d1c0b4db66475aa3b520f7a72273da4532afbf2da6cde4bc620cb792ff893ce4ed472e3dacd308add9276d39dd3b67817d7033bd98b030000000000000040b8244d028981d693af7b456af8efa4cad63d282e19ff14942c246e50d9351d22704a802a71c3580b6370de4ceb293c324a8423342557d4e5c38438f0e36910ee))],.tup [.agg [u8 2,i64 4,i64 0,.str [],.str [],i64 1,i64 2,i64 1,.slu 1 0 64 1,.slu 2 0 64 1,.slu 3 0 64 1,.sl none 0 0,.sl none 0 0,u8 0,.sl none 0 0,.sl none 0 0,.sl none 0 0,.sl none 0 0,i64 0,i64 0,i64 0,.sl none 0 0,.sl none 0 0,i64 0,i64 0,i64 0,.sl none 0 0,.sl none 0 0,i64 0],i64 0],[(1,some (.row bt17)),(2,some (.row (hb 64 0x2c0522b1641e5677015d1c0b4db66475aa3b520f7a72273da4532afbf2da6cde4bc620cb792ff893ce4ed472e3dacd308add9276d39dd3b67817d7033bd98b03))),(3,some (.row bt7))],4⟩
noncomputable def es120:=addG es119 en119
noncomputable def en120:EntG:=⟨108,[(none,3),(none,4)],[.agg [i64 1,i64 3,i64 1,.slu 0 0 64 1,.slu 1 0 64 1]],[some (.row bt19),none],.slu 2 0 89 1,[(2,some (.row (hb 89 0x0200000000000000010000000000000003000000000000000137a1de6fc96fac73a886fafa02697eac568b3645876f7aa9ce8ccc1d38705378d1c0b0cbe5368addf60b49237eb3ba90574adecd63eccb621d9f91bce5293b1c)))],3⟩
noncomputable def es121:=addG es120 en120
noncomputable def en121:EntG:=⟨136,[(none,0)],[.slu 0 0 242 1],[some (.row (hb 242 0x02000000000000000500000000000000990200000000000000010000000000000003000000000000000137a1de6fc96fac73a886fafa02697eac568b3645876f7aa9ce8ccc1d38705378d1c0b0cbe5368addf60b49237eb3ba90574adecd63eccb621d9f91bce5293b1cc833a771f692e580c05c90ce6c8ad1b1c1ab486be0a61d4498e98774a81fdb2d778a5ddb6eb5147defe23ee2a025d5c1712c3932bbe518542121168b9f2088010000000000000040b8244d028981d693af7b456af8efa4cad63d282e19ff14942c246e50d9351d22704a802a71c3580b6370de4ceb293c324a8423342557d4e5c38438f0e36910ee))],.tup [.agg [u8 2,i64 5,i64 0,.str [],.str [],i64 1,i64 3,i64 1,.slu 1 0 64 1,.slu 2 0 64 1,.slu 3 0 64 1,.sl none 0 0,.sl none 0 0,u8 0,.sl none 0 0,.sl none 0 0,.sl none 0 0,.sl none 0 0,i64 0,i64 0,i64 0,.sl none 0 0,.sl none 0 0,i64 0,i64 0,i64 0,.sl none 0 0,.sl none 0 0,i64 0],i64 0],[(1,some (.row bt19)),(2,some (.row (hb 64 0xc833a771f692e580c05c90ce6c8ad1b1c1ab486be0a61d4498e98774a81fdb2d778a5ddb6eb5147defe23ee2a025d5c1712c3932bbe518542121168b9f208801))),(3,some (.row bt7))],4⟩
noncomputable def es122:=addG es121 en121
noncomputable def en122:EntG:=⟨136,[(none,0)],[.slu 0 0 242 1],[some (.row (hb 242 0x02000000000000000000000000000000990200000000000000020000000000000000000000000000000170cd0cec523be12a97ce66a08ad8f574dae49f6efd423e21292a065e4ac254e4829c6bf2f23919509a8d5e10b18d46ec9f162af1faab7a79db5d60151e6f136d78086d0d24662b9b09291dca87f51dd182fd902ece60a1c556f6743cdcbc83933ef8dcef32b4c943cadc03fee8ba0386178fc43f2b10ea69ae40a92f46933b0f00000000000000407b54b66836c1fbdd13d2441d9e1434dc62ca677fb68f5fe66a464baadecdbd00576f8d6b5ac3bcc80844b7d50b1cc6603444bbe7cfcf8fc0aa1ee3c636d9e339))],.tup [.agg [u8 2,i64 0,i64 0,.str [],.str [],i64 2,i64 0,i64 1,.slu 1 0 64 1,.slu 2 0 64 1,.slu 3 0 64 1,.sl none 0 0,.sl none 0 0,u8 0,.sl none 0 0,.sl none 0 0,.sl none 0 0,.sl none 0 0,i64 0,i64 0,i64 0,.sl none 0 0,.sl none 0 0,i64 0,i64 0,i64 0,.sl none 0 0,.sl none 0 0,i64 0],i64 0],[(1,some (.row (hb 64 0x70cd0cec523be12a97ce66a08ad8f574dae49f6efd423e21292a065e4ac254e4829c6bf2f23919509a8d5e10b18d46ec9f162af1faab7a79db5d60151e6f136d))),(2,some (.row (hb 64 0x78086d0d24662b9b09291dca87f51dd182fd902ece60a1c556f6743cdcbc83933ef8dcef32b4c943cadc03fee8ba0386178fc43f2b10ea69ae40a92f46933b0f))),(3,some (.row (hb 64 0x7b54b66836c1fbdd13d2441d9e1434dc62ca677fb68f5fe66a464baadecdbd00576f8d6b5ac3bcc80844b7d50b1cc6603444bbe7cfcf8fc0aa1ee3c636d9e339)))],4⟩
noncomputable def es123:=addG es122 en122
noncomputable def esL:Tr (List EntG):=es123
theorem ek0:EsG Tryz.prog GS es0:=EsG.nil
theorem ek1:EsG Tryz.prog GS es1:=entGK ek0 (e:=en0) (ks:=[]) (by kernel_rfl)
theorem ek2:EsG Tryz.prog GS es2:=entGK ek1 (e:=en1) (ks:=[3]) (by kernel_rfl)
theorem ek3:EsG Tryz.prog GS es3:=entGK ek2 (e:=en2) (ks:=[]) (by kernel_rfl)
theorem ek4:EsG Tryz.prog GS es4:=entGK ek3 (e:=en3) (ks:=[0]) (by kernel_rfl)
theorem ek5:EsG Tryz.prog GS es5:=entGK ek4 (e:=en4) (ks:=[3]) (by kernel_rfl)
theorem ek6:EsG Tryz.prog GS es6:=entGK ek5 (e:=en5) (ks:=[0]) (by kernel_rfl)
theorem ek7:EsG Tryz.prog GS es7:=entGK ek6 (e:=en6) (ks:=[3]) (by kernel_rfl)
theorem ek8:EsG Tryz.prog GS es8:=entGK ek7 (e:=en7) (ks:=[8]) (by kernel_rfl)
theorem ek9:EsG Tryz.prog GS es9:=entGK ek8 (e:=en8) (ks:=[]) (by kernel_rfl)
theorem ek10:EsG Tryz.prog GS es10:=entGK ek9 (e:=en9) (ks:=[]) (by kernel_rfl)
theorem ek11:EsG Tryz.prog GS es11:=entGK ek10 (e:=en10) (ks:=[45]) (by kernel_rfl)
theorem ek12:EsG Tryz.prog GS es12:=entGK ek11 (e:=en11) (ks:=[]) (by kernel_rfl)
theorem ek13:EsG Tryz.prog GS es13:=entGK ek12 (e:=en12) (ks:=[76,78]) (by kernel_rfl)
theorem ek14:EsG Tryz.prog GS es14:=entGK ek13 (e:=en13) (ks:=[46,47,49]) (by kernel_rfl)
theorem ek15:EsG Tryz.prog GS es15:=entGK ek14 (e:=en14) (ks:=[]) (by kernel_rfl)
theorem ek16:EsG Tryz.prog GS es16:=entGK ek15 (e:=en15) (ks:=[]) (by kernel_rfl)
theorem ek17:EsG Tryz.prog GS es17:=entGK ek16 (e:=en16) (ks:=[]) (by kernel_rfl)
theorem ek18:EsG Tryz.prog GS es18:=entGK ek17 (e:=en17) (ks:=[2,3]) (by kernel_rfl)
theorem ek19:EsG Tryz.prog GS es19:=entGK ek18 (e:=en18) (ks:=[2,3]) (by kernel_rfl)
theorem ek20:EsG Tryz.prog GS es20:=entGK ek19 (e:=en19) (ks:=[2,3]) (by kernel_rfl)
theorem ek21:EsG Tryz.prog GS es21:=entGK ek20 (e:=en20) (ks:=[2,3]) (by kernel_rfl)
theorem ek22:EsG Tryz.prog GS es22:=entGK ek21 (e:=en21) (ks:=[]) (by kernel_rfl)
theorem ek23:EsG Tryz.prog GS es23:=entGK ek22 (e:=en22) (ks:=[]) (by kernel_rfl)
theorem ek24:EsG Tryz.prog GS es24:=entGK ek23 (e:=en23) (ks:=[]) (by kernel_rfl)
theorem ek25:EsG Tryz.prog GS es25:=entGK ek24 (e:=en24) (ks:=[58,59,62]) (by kernel_rfl)
theorem ek26:EsG Tryz.prog GS es26:=entGK ek25 (e:=en25) (ks:=[76]) (by kernel_rfl)
theorem ek27:EsG Tryz.prog GS es27:=entGK ek26 (e:=en26) (ks:=[27]) (by kernel_rfl)
theorem ek28:EsG Tryz.prog GS es28:=entGK ek27 (e:=en27) (ks:=[25,26,27,29]) (by kernel_rfl)
theorem ek29:EsG Tryz.prog GS es29:=entGK ek28 (e:=en28) (ks:=[]) (by kernel_rfl)
theorem ek30:EsG Tryz.prog GS es30:=entGK ek29 (e:=en29) (ks:=[]) (by kernel_rfl)
theorem ek31:EsG Tryz.prog GS es31:=entGK ek30 (e:=en30) (ks:=[]) (by kernel_rfl)
theorem ek32:EsG Tryz.prog GS es32:=entGK ek31 (e:=en31) (ks:=[28]) (by kernel_rfl)
theorem ek33:EsG Tryz.prog GS es33:=entGK ek32 (e:=en32) (ks:=[]) (by kernel_rfl)
theorem ek34:EsG Tryz.prog GS es34:=entGK ek33 (e:=en33) (ks:=[]) (by kernel_rfl)
theorem ek35:EsG Tryz.prog GS es35:=entGK ek34 (e:=en34) (ks:=[]) (by kernel_rfl)
theorem ek36:EsG Tryz.prog GS es36:=entGK ek35 (e:=en35) (ks:=[30]) (by kernel_rfl)
theorem ek37:EsG Tryz.prog GS es37:=entGK ek36 (e:=en36) (ks:=[22,32]) (by kernel_rfl)
theorem ek38:EsG Tryz.prog GS es38:=entGK ek37 (e:=en37) (ks:=[0]) (by kernel_rfl)
theorem ek39:EsG Tryz.prog GS es39:=entGK ek38 (e:=en38) (ks:=[6]) (by kernel_rfl)
theorem ek40:EsG Tryz.prog GS es40:=entGK ek39 (e:=en39) (ks:=[4]) (by kernel_rfl)
theorem ek41:EsG Tryz.prog GS es41:=entGK ek40 (e:=en40) (ks:=[37]) (by kernel_rfl)
theorem ek42:EsG Tryz.prog GS es42:=entGK ek41 (e:=en41) (ks:=[0]) (by kernel_rfl)
theorem ek43:EsG Tryz.prog GS es43:=entGK ek42 (e:=en42) (ks:=[0]) (by kernel_rfl)
theorem ek44:EsG Tryz.prog GS es44:=entGK ek43 (e:=en43) (ks:=[0]) (by kernel_rfl)
theorem ek45:EsG Tryz.prog GS es45:=entGK ek44 (e:=en44) (ks:=[3]) (by kernel_rfl)
theorem ek46:EsG Tryz.prog GS es46:=entGK ek45 (e:=en45) (ks:=[]) (by kernel_rfl)
theorem ek47:EsG Tryz.prog GS es47:=entGK ek46 (e:=en46) (ks:=[]) (by kernel_rfl)
theorem ek48:EsG Tryz.prog GS es48:=entGK ek47 (e:=en47) (ks:=[]) (by kernel_rfl)
theorem ek49:EsG Tryz.prog GS es49:=entGK ek48 (e:=en48) (ks:=[]) (by kernel_rfl)
theorem ek50:EsG Tryz.prog GS es50:=entGK ek49 (e:=en49) (ks:=[27]) (by kernel_rfl)
theorem ek51:EsG Tryz.prog GS es51:=entGK ek50 (e:=en50) (ks:=[24,25,26,27,61,63,64]) (by kernel_rfl)
theorem ek52:EsG Tryz.prog GS es52:=entGK ek51 (e:=en51) (ks:=[]) (by kernel_rfl)
theorem ek53:EsG Tryz.prog GS es53:=entGK ek52 (e:=en52) (ks:=[72,74,92]) (by kernel_rfl)
theorem ek54:EsG Tryz.prog GS es54:=entGK ek53 (e:=en53) (ks:=[]) (by kernel_rfl)
theorem ek55:EsG Tryz.prog GS es55:=entGK ek54 (e:=en54) (ks:=[28]) (by kernel_rfl)
theorem ek56:EsG Tryz.prog GS es56:=entGK ek55 (e:=en55) (ks:=[]) (by kernel_rfl)
theorem ek57:EsG Tryz.prog GS es57:=entGK ek56 (e:=en56) (ks:=[0]) (by kernel_rfl)
theorem ek58:EsG Tryz.prog GS es58:=entGK ek57 (e:=en57) (ks:=[28]) (by kernel_rfl)
theorem ek59:EsG Tryz.prog GS es59:=entGK ek58 (e:=en58) (ks:=[]) (by kernel_rfl)
theorem ek60:EsG Tryz.prog GS es60:=entGK ek59 (e:=en59) (ks:=[27]) (by kernel_rfl)
theorem ek61:EsG Tryz.prog GS es61:=entGK ek60 (e:=en60) (ks:=[]) (by kernel_rfl)
theorem ek62:EsG Tryz.prog GS es62:=entGK ek61 (e:=en61) (ks:=[]) (by kernel_rfl)
theorem ek63:EsG Tryz.prog GS es63:=entGK ek62 (e:=en62) (ks:=[72,74,95]) (by kernel_rfl)
theorem ek64:EsG Tryz.prog GS es64:=entGK ek63 (e:=en63) (ks:=[87]) (by kernel_rfl)
theorem ek65:EsG Tryz.prog GS es65:=entGK ek64 (e:=en64) (ks:=[3]) (by kernel_rfl)
theorem ek66:EsG Tryz.prog GS es66:=entGK ek65 (e:=en65) (ks:=[31]) (by kernel_rfl)
theorem ek67:EsG Tryz.prog GS es67:=entGK ek66 (e:=en66) (ks:=[]) (by kernel_rfl)
theorem ek68:EsG Tryz.prog GS es68:=entGK ek67 (e:=en67) (ks:=[2]) (by kernel_rfl)
theorem ek69:EsG Tryz.prog GS es69:=entGK ek68 (e:=en68) (ks:=[3]) (by kernel_rfl)
theorem ek70:EsG Tryz.prog GS es70:=entGK ek69 (e:=en69) (ks:=[71,87]) (by kernel_rfl)
theorem ek71:EsG Tryz.prog GS es71:=entGK ek70 (e:=en70) (ks:=[0]) (by kernel_rfl)
theorem ek72:EsG Tryz.prog GS es72:=entGK ek71 (e:=en71) (ks:=[28]) (by kernel_rfl)
theorem ek73:EsG Tryz.prog GS es73:=entGK ek72 (e:=en72) (ks:=[]) (by kernel_rfl)
theorem ek74:EsG Tryz.prog GS es74:=entGK ek73 (e:=en73) (ks:=[22,32]) (by kernel_rfl)
theorem ek75:EsG Tryz.prog GS es75:=entGK ek74 (e:=en74) (ks:=[27]) (by kernel_rfl)
theorem ek76:EsG Tryz.prog GS es76:=entGK ek75 (e:=en75) (ks:=[]) (by kernel_rfl)
theorem ek77:EsG Tryz.prog GS es77:=entGK ek76 (e:=en76) (ks:=[]) (by kernel_rfl)
theorem ek78:EsG Tryz.prog GS es78:=entGK ek77 (e:=en77) (ks:=[]) (by kernel_rfl)
theorem ek79:EsG Tryz.prog GS es79:=entGK ek78 (e:=en78) (ks:=[]) (by kernel_rfl)
theorem ek80:EsG Tryz.prog GS es80:=entGK ek79 (e:=en79) (ks:=[]) (by kernel_rfl)
theorem ek81:EsG Tryz.prog GS es81:=entGK ek80 (e:=en80) (ks:=[]) (by kernel_rfl)
theorem ek82:EsG Tryz.prog GS es82:=entGK ek81 (e:=en81) (ks:=[72,74,95]) (by kernel_rfl)
theorem ek83:EsG Tryz.prog GS es83:=entGK ek82 (e:=en82) (ks:=[0]) (by kernel_rfl)
theorem ek84:EsG Tryz.prog GS es84:=entGK ek83 (e:=en83) (ks:=[28]) (by kernel_rfl)
theorem ek85:EsG Tryz.prog GS es85:=entGK ek84 (e:=en84) (ks:=[]) (by kernel_rfl)
theorem ek86:EsG Tryz.prog GS es86:=entGK ek85 (e:=en85) (ks:=[22,32]) (by kernel_rfl)
theorem ek87:EsG Tryz.prog GS es87:=entGK ek86 (e:=en86) (ks:=[27]) (by kernel_rfl)
theorem ek88:EsG Tryz.prog GS es88:=entGK ek87 (e:=en87) (ks:=[]) (by kernel_rfl)
theorem ek89:EsG Tryz.prog GS es89:=entGK ek88 (e:=en88) (ks:=[]) (by kernel_rfl)
theorem ek90:EsG Tryz.prog GS es90:=entGK ek89 (e:=en89) (ks:=[]) (by kernel_rfl)
theorem ek91:EsG Tryz.prog GS es91:=entGK ek90 (e:=en90) (ks:=[]) (by kernel_rfl)
theorem ek92:EsG Tryz.prog GS es92:=entGK ek91 (e:=en91) (ks:=[]) (by kernel_rfl)
theorem ek93:EsG Tryz.prog GS es93:=entGK ek92 (e:=en92) (ks:=[]) (by kernel_rfl)
theorem ek94:EsG Tryz.prog GS es94:=entGK ek93 (e:=en93) (ks:=[]) (by kernel_rfl)
theorem ek95:EsG Tryz.prog GS es95:=entGK ek94 (e:=en94) (ks:=[]) (by kernel_rfl)
theorem ek96:EsG Tryz.prog GS es96:=entGK ek95 (e:=en95) (ks:=[]) (by kernel_rfl)
theorem ek97:EsG Tryz.prog GS es97:=entGK ek96 (e:=en96) (ks:=[]) (by kernel_rfl)
theorem ek98:EsG Tryz.prog GS es98:=entGK ek97 (e:=en97) (ks:=[]) (by kernel_rfl)
theorem ek99:EsG Tryz.prog GS es99:=entGK ek98 (e:=en98) (ks:=[]) (by kernel_rfl)
theorem ek100:EsG Tryz.prog GS es100:=entGK ek99 (e:=en99) (ks:=[]) (by kernel_rfl)
theorem ek101:EsG Tryz.prog GS es101:=entGK ek100 (e:=en100) (ks:=[]) (by kernel_rfl)
theorem ek102:EsG Tryz.prog GS es102:=entGK ek101 (e:=en101) (ks:=[]) (by kernel_rfl)
theorem ek103:EsG Tryz.prog GS es103:=entGK ek102 (e:=en102) (ks:=[]) (by kernel_rfl)
theorem ek104:EsG Tryz.prog GS es104:=entGK ek103 (e:=en103) (ks:=[]) (by kernel_rfl)
theorem ek105:EsG Tryz.prog GS es105:=entGK ek104 (e:=en104) (ks:=[]) (by kernel_rfl)
theorem ek106:EsG Tryz.prog GS es106:=entGK ek105 (e:=en105) (ks:=[]) (by kernel_rfl)
theorem ek107:EsG Tryz.prog GS es107:=entGK ek106 (e:=en106) (ks:=[]) (by kernel_rfl)
theorem ek108:EsG Tryz.prog GS es108:=entGK ek107 (e:=en107) (ks:=[]) (by kernel_rfl)
theorem ek109:EsG Tryz.prog GS es109:=entGK ek108 (e:=en108) (ks:=[]) (by kernel_rfl)
theorem ek110:EsG Tryz.prog GS es110:=entGK ek109 (e:=en109) (ks:=[]) (by kernel_rfl)
theorem ek111:EsG Tryz.prog GS es111:=entGK ek110 (e:=en110) (ks:=[]) (by kernel_rfl)
theorem ek112:EsG Tryz.prog GS es112:=entGK ek111 (e:=en111) (ks:=[20]) (by kernel_rfl)
theorem ek113:EsG Tryz.prog GS es113:=entGK ek112 (e:=en112) (ks:=[72,74,95]) (by kernel_rfl)
theorem ek114:EsG Tryz.prog GS es114:=entGK ek113 (e:=en113) (ks:=[72,74,92]) (by kernel_rfl)
theorem ek115:EsG Tryz.prog GS es115:=entGK ek114 (e:=en114) (ks:=[]) (by kernel_rfl)
theorem ek116:EsG Tryz.prog GS es116:=entGK ek115 (e:=en115) (ks:=[27]) (by kernel_rfl)
theorem ek117:EsG Tryz.prog GS es117:=entGK ek116 (e:=en116) (ks:=[72,74,95]) (by kernel_rfl)
theorem ek118:EsG Tryz.prog GS es118:=entGK ek117 (e:=en117) (ks:=[71,87,166,167,170,236]) (by kernel_rfl)
theorem ek119:EsG Tryz.prog GS es119:=entGK ek118 (e:=en118) (ks:=[27]) (by kernel_rfl)
theorem ek120:EsG Tryz.prog GS es120:=entGK ek119 (e:=en119) (ks:=[72,74,95]) (by kernel_rfl)
theorem ek121:EsG Tryz.prog GS es121:=entGK ek120 (e:=en120) (ks:=[27]) (by kernel_rfl)
theorem ek122:EsG Tryz.prog GS es122:=entGK ek121 (e:=en121) (ks:=[72,74,95]) (by kernel_rfl)
theorem ek123:EsG Tryz.prog GS es123:=entGK ek122 (e:=en122) (ks:=[66,68,86]) (by kernel_rfl)
theorem ekL:EsG Tryz.prog GS esL:=ek123
end Go.Proofs.YtmgcoepbccgjfaaGreatDoor
end
