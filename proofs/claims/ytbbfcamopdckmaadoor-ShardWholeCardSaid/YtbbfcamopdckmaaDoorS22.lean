/- Shard: a key's digest, its bits, the document's bits. -/
import Derived.Test.YtbbfcamopdckmaaDoorS21
import Derived.Test.YtbbfcamopdckmaaDoorD2
set_option linter.unusedSimpArgs false
set_option linter.unusedVariables false
set_option maxRecDepth 100000
namespace Go.Proofs.YtbbfcamopdckmaaDoor
open Go Go.Sh

theorem callK_mono {P : Program} {f : FuncId} {args : List Value} {w : World} {pan : List PanicEntry → World → Prop} {K K' : Value → World → Prop} (h : callK P f args w pan K) (hk : ∀ v w, K v w → K' v w) : callK P f args w pan K' :=
  Calls.mono h fun e w' he => by
    cases e with
    | returned v => exact hk _ _ he
    | panicked c => exact he
    | outgrown => exact he
/-- a key's digest -/
def dg (key : List UInt8) : List UInt8 := sha (6 :: key)
/-- a digest's bit -/
def bit (d : List UInt8) (i : Nat) : UInt8 := shrU8 (d.getD (i / 8) 0) (7 - i % 8) &&& 1
/-- the bits from one on, as many -/
def bitsFrom (d : List UInt8) (i n : Nat) : List UInt8 := (List.range' i n).map (bit d)
theorem bitsFrom_succ (d : List UInt8) (i n : Nat) : bitsFrom d i (n + 1) = bitsFrom d i n ++ [bit d (i + n)] := by
  simp [bitsFrom, List.range'_concat]
@[simp] theorem bitsFrom_len (d : List UInt8) (i n : Nat) : (bitsFrom d i n).length = n := by simp [bitsFrom]
/-- the way -/
def way (d : List UInt8) : List UInt8 := (bitsFrom d 2 510).map (48 + ·)
def shardOf (d : List UInt8) : Int := ((shrU8 (d.getD 0 0) 6).toNat : Int)
theorem dg_len (key : List UInt8) : (dg key).length = 64 := sha_len _
theorem iDigest : ∃ i, Tryd.prog.info? 92 = some i ∧ i.zero = some (.agg (List.replicate 64 (Value.int .u8 0)).toArray) ∧ i.size = 64 ∧ i.bytes = 64 := info_of (by kernel_rfl) (by kernel_rfl) (by kernel_rfl)
theorem uStr : Tryd.prog.underlying 9 = some .string := by kernel_rfl
theorem uU8 : Tryd.prog.underlying 5 = some (.int .u8) := by kernel_rfl

/-- the digest is copied into its block -/
theorem of_tail {w0 w : World} {b : Nat} {x y : Slc} {key : List UInt8} {R : Ending → World → Prop} (hg : Glob w) (hb : Blk w b (bys (List.replicate 64 0)) 92) (hbl : b = w0.heap.size)
    (hm : Mod NoB w0 w) (hx : SlRd w x 1 (bys [6])) (hxl : ∀ z, x.blk = some z → z < w.heap.size) (hy : SlRd w y 1 (bys key)) (hyl : ∀ z, y.blk = some z → z < w.heap.size) (hn : key.length ≤ 800000000)
    (hR : ∀ w', Blk w' b (bys (dg key)) 92 → Mod NoB w0 w' → R (.returned (.pointer (some ⟨b, 0, none⟩))) w') :
    semK Tryd.prog (Instr.buildSlice 22 2 #[(0, (.slice x.a x.len x.cap)), (1, (.slice y.a y.len y.cap))]) w fun v3 w4 => ∃ x2 : Slc, v3 = (.slice x2.a x2.len x2.cap) ∧ ((callK Tryd.prog 16 [(.slice x2.a x2.len x2.cap)] w4 (panR R) fun v4 w5 => ∃ x3 : Slc, v4 = (.slice x3.a x3.len x3.cap) ∧
      ((semK Tryd.prog (Builtin.copy_ #[26, 26] 3 #[(.slice (cutSl ⟨some ((⟨b, 0, none⟩ : Addr).add 0), 64, 64⟩ 1 0 64 64).a (cutSl ⟨some ((⟨b, 0, none⟩ : Addr).add 0), 64, 64⟩ 1 0 64 64).len (cutSl ⟨some ((⟨b, 0, none⟩ : Addr).add 0), 64, 64⟩ 1 0 64 64).cap), (.slice x3.a x3.len x3.cap)]) w5 fun v5 w6 => ∃ x4 : Int, v5 = (.int .i64 x4) ∧ R (.returned (.pointer (some ⟨b, 0, none⟩))) w6) ∧ True)) ∧ True) := by
  obtain ⟨i5', h51, h52, h53, h54⟩ := i5
  suffices hk : semK Tryd.prog (Instr.buildSlice 22 2 #[(0, (.slice x.a x.len x.cap)), (1, (.slice y.a y.len y.cap))]) w fun v3 w4 => ∃ x2 : Slc, v3 = (.slice x2.a x2.len x2.cap) ∧ (callK Tryd.prog 16 [(.slice x2.a x2.len x2.cap)] w4 (panR R) fun v4 w5 => ∃ x3 : Slc, v4 = (.slice x3.a x3.len x3.cap) ∧ (semK Tryd.prog (Builtin.copy_ #[26, 26] 3 #[(.slice (cutSl ⟨some ((⟨b, 0, none⟩ : Addr).add 0), 64, 64⟩ 1 0 64 64).a (cutSl ⟨some ((⟨b, 0, none⟩ : Addr).add 0), 64, 64⟩ 1 0 64 64).len (cutSl ⟨some ((⟨b, 0, none⟩ : Addr).add 0), 64, 64⟩ 1 0 64 64).cap), (.slice x3.a x3.len x3.cap)]) w5 fun v5 w6 => ∃ x4 : Int, v5 = (.int .i64 x4) ∧ R (.returned (.pointer (some ⟨b, 0, none⟩))) w6)) by
    obtain ⟨v, w4, h1, x2, h2, h3⟩ := hk
    refine ⟨v, w4, h1, x2, h2, callK_mono h3 fun v w5 ⟨x3, h4, h5⟩ => ⟨x3, h4, h5, trivial⟩, trivial⟩
  refine step_sum (W := w) (ss := [x, y]) (pl := [[6], key]) hg (Mod.refl _ _) rfl rfl (by omega) (by omega) rfl (rows2 hx hxl hy hyl) (by simp; omega) ?_
  intro z w5 ho hf hm5
  simp only [List.flatten_cons, List.flatten_nil, List.append_nil, List.singleton_append] at ho
  have hzl : z.len = 64 := by have := rd_len8 ho.rd; rw [sha_len] at this; omega
  refine sem_copy (d := cutSl ⟨some ((⟨b, 0, none⟩ : Addr).add 0), 64, 64⟩ 1 0 64 64) (b := b) (o := 0) (l := bys (List.replicate 64 0)) u26 h51 h53 (by simp [cutSl]) (hb.no hm5) (by simp [cutSl]) ho.rd (bys_one _) fun w6 hb6 hm6 hs6 => ⟨_, rfl, hR w6 ?_ ?_⟩
  · rw [show min z.len (cutSl ⟨some ((⟨b, 0, none⟩ : Addr).add 0), 64, 64⟩ 1 0 64 64).len * 1 = 64 by simp [cutSl, hzl]] at hb6
    have e : putAt (bys (List.replicate 64 0)) 0 ((bys (sha (6 :: key))).take 64) = bys (dg key) := by
      rw [List.take_of_length_le (by rw [bys_len, sha_len]; omega)]
      simp [putAt, dg, sha_len, bys]
    rw [e] at hb6
    exact hb6
  · exact (hm.tr hm5).fresh hm6 fun x e => by omega
/-- a key's digest in a block of its own -/
theorem c_of {w : World} {key : List UInt8} (hg : Glob w) (hn : key.length ≤ 800000000) :
    Calls Tryd.prog 50 #[.string ⟨key.toArray⟩] w (Ret fun v w' => ∃ b, v = .pointer (some ⟨b, 0, none⟩) ∧ w.heap.size ≤ b ∧ Blk w' b (bys (dg key)) 92 ∧ Mod NoB w w') := by
  refine call50 _ ?_
  unfold sh50
  obtain ⟨id, hd1, hd2, hd3, hd4⟩ := iDigest
  refine sem_alloc (l := bys (List.replicate 64 0)) hd1 hd2 (by simp [Value.cells, bys]) fun b w1 hN hb => ⟨_, rfl, ?_⟩
  have hat := hN.at_; have hsz := hN.size
  have hm1 : Mod NoB w w1.drew := hN.mod.tr (Mod.drew _ _)
  have end' : ∀ w', Blk w' b (bys (dg key)) 92 → Mod NoB w w' → Ret (fun v w' => ∃ b, v = .pointer (some ⟨b, 0, none⟩) ∧ w.heap.size ≤ b ∧ Blk w' b (bys (dg key)) 92 ∧ Mod NoB w w') (.returned (.pointer (some ⟨b, 0, none⟩))) w' :=
    fun w' h1 h2 => ⟨b, rfl, by omega, h1, h2⟩
  refine ⟨?_, ?_, trivial⟩
  · refine sem_bytes [6] (by rfl) rfl (by decide) (by decide) fun x e w2 hN2 hx hbx hox => ⟨x, rfl, ?_, trivial⟩
    have hxb := blk_of_eq hx
    refine sem_strBytes uStr u26 uU8 fun y w3 hoy hyl hyb hm3 hs3 => ⟨y, rfl, ?_, trivial⟩
    have hs2 : w2.heap.size = e + 1 := hN2.size
    have hm2 : Mod NoB w w3 := (hm1.tr hN2.mod).tr hm3
    have := of_tail (w0 := w) (b := b) (x := x) (y := y) (key := key) (hg.no hm2) ((hb.drew.no hN2.mod).no hm3) hat hm2 (hox.rd.no hm3) (fun z hz => by have := hxb z hz; omega) hoy.rd (fun z hz => by rcases hyb with h | h <;> rw [h] at hz <;> cases hz; omega) hn end'
    exact this
  · refine sem_strBytes uStr u26 uU8 fun y w2 hoy hyl hyb hm2 hs2 => ⟨y, rfl, ?_, trivial⟩
    refine sem_bytes [6] (by rfl) rfl (by decide) (by decide) fun x e w3 hN3 hx hbx hox => ⟨x, rfl, ?_, trivial⟩
    have hxb := blk_of_eq hx
    have hs3 : w3.heap.size = e + 1 := hN3.size
    have hm3 : Mod NoB w w3 := (hm1.tr hm2).tr hN3.mod
    have := of_tail (w0 := w) (b := b) (x := x) (y := y) (key := key) (hg.no hm3) ((hb.drew.no hm2).no hN3.mod) hat hm3 hox.rd (fun z hz => by have := hxb z hz; omega) (hoy.rd.no hN3.mod) (fun z hz => by have := hN3.at_; rcases hyb with h | h <;> rw [h] at hz <;> cases hz; omega) hn end'
    exact this
end Go.Proofs.YtbbfcamopdckmaaDoor
