/- The forms of the translated functions, their contracts and the plain laws behind them, put together by a program. -/
import Derived.Test.YthaefcgpbccmbaaGreatDoorPS18
import Derived.Laws.StructEq
import Derived.Test.YthaefcgpbccmbaaGreatDoorProg
import Derived.KernelRfl
set_option linter.unusedSimpArgs false
set_option linter.unusedVariables false
set_option maxRecDepth 100000
set_option maxHeartbeats 4000000
section
namespace Go.Proofs.YthaefcgpbccmbaaGreatDoor
open Go Go.Sh Go.MapKept
open Go.Proofs.Tryz
theorem uDotS : prog.underlying 52 = some (.struct (prog.fieldsOf 52)) := by kernel_rfl
theorem ps_dot {ox oy : Operand} {x y : Int × Int} {K : Value → Prop} (hk : K (.bool (!decide (x = y)))) :
    pureSem prog (do eqGuard .neq 52 ox oy (.agg #[.int .i64 x.1, .int .i64 x.2]) (.agg #[.int .i64 y.1, .int .i64 y.2]); binOp .neq 52 (.agg #[.int .i64 x.1, .int .i64 x.2]) (.agg #[.int .i64 y.1, .int .i64 y.2])) K := by
  refine ps_of (fun w => ?_) hk
  have hg : prog.eqGuardType prog.depth 52 = false := by kernel_rfl
  have u3 := Tryz.underlying3
  have a3 := Tryz.isAgg3
  have z3 := Tryz.sizeOf3
  have he' : (Op.equal 52 (.agg #[.int .i64 x.1, .int .i64 x.2]) (.agg #[.int .i64 y.1, .int .i64 y.2])).run prog w = .ok (decide (x = y)) w := by
    show (Op.equalIn 10000 52 _ _).run _ _ = _
    rw [show (10000 : Nat) = 9999 + 1 from rfl, run_equalIn_agg w 9999 52 _ _ uDotS (by kernel_rfl)]
    simp only [Program.fieldsOf, Tryz.underlying52]
    go_simp
    by_cases h1 : x.1 = y.1 <;> by_cases h2 : x.2 = y.2 <;> simp [h1, h2, Prod.ext_iff]
  simp only [Sem.run_bind, run_eqGuard_agg w .neq 52 ox oy _ _ hg, Result.andThen_ok]
  show (do pure (Value.bool (!(← Op.equal 52 _ _))) : Sem Value).run prog w = _
  simp only [Sem.run_bind, he', Result.andThen_ok]
  rfl
theorem c_sameD {w : World} {a b : Slc} {l m : List (Int × Int)} (ha : SlRd w a 2 (dts l)) (hb : SlRd w b 2 (dts m)) (hn : l.length ≤ 9000000000000000000) :
    Calls prog 42 #[.slice a.a a.len a.cap, .slice b.a b.len b.cap] w (Ret fun v w' => v = .bool (decide (l = m)) ∧ Mod NoB w w') := by
  refine call42 _ _ ?_
  unfold sh42
  have hla : l.length = a.len := by have := ha.1; simp at this; omega
  have hlb : m.length = b.len := by have := hb.1; simp at this; omega
  refine condK_i (fun h => ⟨?_, Mod.refl _ _⟩) (fun h => ?_)
  · have : l ≠ m := by rintro rfl; simp at h; omega
    simp [this]
  · have hlen : l.length = m.length := by simp at h; omega
    refine ⟨fun l' w' => match l' with | [.i _ x] => ∃ k : Nat, x = k ∧ k ≤ l.length ∧ l.take k = m.take k ∧ Mod NoB w w' | _ => False, fun l' _ => match l' with | [.i _ x] => (l.length - x).toNat | _ => 0, ⟨0, rfl, by omega, rfl, Mod.refl _ _⟩, ?_⟩
    rintro x w1 ⟨k, rfl, hk, hkk, hm1⟩
    refine condK_i (fun h => ?_) (fun h => ?_)
    · have hk' : k < l.length := by simp at h; omega
      obtain ⟨a1, ea, hra⟩ := rd_dot ha hk'
      obtain ⟨a2, eb, hrb⟩ := rd_dot hb (i := k) (by omega)
      rw [ea, eb]
      refine ⟨⟨by omega, by omega⟩, ⟨by omega, by omega⟩, l[k].1, l[k].2, Rd.drew (hra.mod hm1 fun h => h), (m[k]'(by omega)).1, (m[k]'(by omega)).2, Rd.drew (hrb.mod hm1 fun h => h), ps_dot ⟨_, rfl, condK_i (fun hne => ⟨?_, hm1.tr (Mod.drew _ _)⟩) (fun hne => ⟨⟨k + 1, wrap_i64 (e := (k : Int) + 1) (by omega), by omega, ?_, hm1.tr (Mod.drew _ _)⟩, ?_⟩)⟩⟩
      · have : l ≠ m := by rintro rfl; simp at hne
        simp [this]
      · have : l[k] = m[k]'(by omega) := by simpa using hne
        rw [take_snoc hk', take_snoc (by omega), hkk, this]
      · rw [wrap_i64 (e := (k : Int) + 1) (by omega)]; (try simp only []); omega
    · have hk' : k = l.length := by simp at h; omega
      rw [hk', List.take_length, hlen, List.take_length] at hkk
      exact ⟨by simp [hkk], hm1⟩
theorem rc_ext {r s : Rc} (h1 : r.key = s.key) (h2 : r.cl = s.cl) (h3 : r.sq = s.sq) (h4 : r.ctx = s.ctx) (h5 : r.gone = s.gone) (h6 : r.val = s.val) (h7 : r.sig = s.sig) : r = s := by
  obtain ⟨a, b, c, d, e, f, g⟩ := r
  obtain ⟨a', b', c', d', e', f', g'⟩ := s
  simp only at h1 h2 h3 h4 h5 h6 h7
  subst h1 h2 h3 h4 h5 h6 h7
  rfl
theorem c_sameRec {w : World} {a b : Hd} {r s : Rc} (ha : HdAt w a r) (hb : HdAt w b s) :
    Calls prog 22 #[a.val, b.val] w (Ret fun v w' => v = .bool (decide (r = s)) ∧ Mod NoB w w') := by
  refine call22 a.a a.b a.c a.d a.e a.f a.g b.a b.b b.c b.d b.e b.f b.g ?_
  unfold sh22
  refine sem_box (l := a.cells) rfl fun p w1 hN1 hb1 => ⟨_, rfl, ?_⟩
  refine sem_box (l := b.cells) rfl fun q w2 hN2 hb2 => ⟨_, rfl, ?_⟩
  have hm2 : Mod NoB w w2 := hN1.mod.tr hN2.mod
  have p2 := hb1.no hN2.mod
  obtain ⟨sm1, sm2, sm3, sm4⟩ := ha.sm
  refine ⟨a.a, rdHj p2 rfl, b.a, rdHj hb2 rfl, condK_i (fun h1 => ?_) fun h1 => ⟨?_, hm2⟩⟩
  rotate_left
  · have : r ≠ s := fun e => by subst e; rw [ha.key, hb.key] at h1; simp at h1
    simp [this]
  refine ⟨a.b, rdHj p2 rfl, b.b, rdHj hb2 rfl, condK_i (fun h2 => ?_) fun h2 => ⟨?_, hm2⟩⟩
  rotate_left
  · have : r ≠ s := fun e => by subst e; rw [ha.cl, hb.cl] at h2; simp at h2
    simp [this]
  refine ⟨a.c, rdHj p2 rfl, b.c, rdHj hb2 rfl, condK_i (fun h3 => ?_) fun h3 => ⟨?_, hm2⟩⟩
  rotate_left
  · have : r ≠ s := fun e => by subst e; rw [ha.sq, hb.sq] at h3; simp at h3
    simp [this]
  refine ⟨a.d, rdHj p2 rfl, b.d, rdHj hb2 rfl, ?_⟩
  refine callK_ret (c_sameD (ha.no hm2).ctx (hb.no hm2).ctx (by omega)) ?_
  rintro v w3 ⟨rfl, hm3⟩
  have hm23 := hm2.tr hm3
  refine ⟨_, rfl, condK_i (fun h4 => ?_) fun h4 => ⟨?_, hm23⟩⟩
  rotate_left
  · have : r ≠ s := fun e => by subst e; simp at h4
    simp [this]
  refine ⟨a.e, rdHj (p2.no hm3) rfl, b.e, rdHj (hb2.no hm3) rfl, ps_eql_bool (by kernel_rfl) ⟨_, rfl, condK_i (fun h5 => ?_) fun h5 => ⟨?_, hm23⟩⟩⟩
  rotate_left
  · have : r ≠ s := fun e => by subst e; rw [ha.gone, hb.gone] at h5; simp at h5
    simp [this]
  refine ⟨a.f, rdHj (p2.no hm3) rfl, b.f, rdHj (hb2.no hm3) rfl, ?_⟩
  refine callK_ret (c_same (ha.no hm23).val (hb.no hm23).val (by omega)) ?_
  rintro v w4 ⟨rfl, hm4⟩
  have hm24 := hm23.tr hm4
  refine ⟨_, rfl, condK_i (fun h6 => ?_) fun h6 => ⟨?_, hm24⟩⟩
  rotate_left
  · have : r ≠ s := fun e => by subst e; simp at h6
    simp [this]
  refine ⟨a.g, rdHj ((p2.no hm3).no hm4) rfl, b.g, rdHj ((hb2.no hm3).no hm4) rfl, ?_⟩
  refine callK_ret (c_same (ha.no hm24).sig (hb.no hm24).sig (by omega)) ?_
  rintro v w5 ⟨rfl, hm5⟩
  refine ⟨_, rfl, congrArg Value.bool (decide_eq_decide.2 ?_), hm24.tr hm5⟩
  rw [ha.key, hb.key] at h1
  rw [ha.cl, hb.cl] at h2
  rw [ha.sq, hb.sq] at h3
  rw [ha.gone, hb.gone] at h5
  exact ⟨fun h7 => rc_ext (by simpa using h1) (by simpa using h2) (by simpa using h3) (by simpa using h4) (by simpa using h5) (by simpa using h6) h7, fun e => by rw [e]⟩
def RecsR (w : World) (s : Slc) (rs : List Rc) : Prop := ∃ hs : List Hd, SlRd w s 7 (hcells hs) ∧ hs.length = rs.length ∧ ∀ i (h : i < hs.length) (h' : i < rs.length), HdAt w hs[i] rs[i]
theorem RecsR.no {w w' : World} {s : Slc} {rs : List Rc} (h : RecsR w s rs) (hm : Mod NoB w w') : RecsR w' s rs := by
  obtain ⟨hs, h1, h2, h3⟩ := h
  exact ⟨hs, h1.no hm, h2, fun i a b => (h3 i a b).no hm⟩
theorem RecsR.len {w : World} {s : Slc} {rs : List Rc} (h : RecsR w s rs) : rs.length = s.len := by
  obtain ⟨hs, h1, h2, h3⟩ := h
  have := rd_lenC Hd.len (by omega) h1; omega
theorem SetQ.r {Q : Nat → Prop} {w : World} {s : Slc} {rs : List Rc} (h : SetQ Q w s rs) : RecsR w s rs := by
  obtain ⟨hs, h1, h2, h3, h4⟩ := h
  exact ⟨hs, h1.rd, h3, fun i a b => (h4 i a b).1⟩
theorem SetS.r {B0 : Nat} {w : World} {s : Slc} {rs : List Rc} (h : SetS B0 w s rs) : RecsR w s rs := h.q.r
def LeavesR (w : World) (o : Slc) (L : Lv) : Prop :=
  ∃ es : List (List UInt8 × Slc), SlRd w o 2 (flatC lcell es) ∧ es.length = L.length ∧ ∀ i (h : i < es.length) (h' : i < L.length), es[i].1 = L[i].1 ∧ RecsR w es[i].2 L[i].2
theorem LeavesQ.r {Q : Nat → Prop} {w : World} {o : Slc} {L : Lv} (h : LeavesQ Q w o L) : LeavesR w o L := by
  obtain ⟨es, h1, h2, h3, h4⟩ := h
  exact ⟨es, h1.rd, h3, fun i a b => ⟨(h4 i a b).1, (h4 i a b).2.r⟩⟩
section
variable {w : World}
theorem c_sameRecs {a b : Slc} {l m : List Rc} (ha : RecsR w a l) (hb : RecsR w b m) (hn : l.length ≤ 1000000000) :
    Calls prog 14 #[.slice a.a a.len a.cap, .slice b.a b.len b.cap] w (Ret fun v w' => v = .bool (decide (l = m)) ∧ Mod NoB w w') := by
  refine call14 _ _ ?_
  unfold sh14
  have hla := ha.len; have hlb := hb.len
  refine condK_i (fun h => ⟨?_, Mod.refl _ _⟩) (fun h => ?_)
  · have : l ≠ m := by rintro rfl; simp at h; omega
    simp [this]
  · have hlen : l.length = m.length := by simp at h; omega
    refine ⟨fun l' w' => match l' with | [.i _ x] => ∃ k : Nat, x = k ∧ k ≤ l.length ∧ l.take k = m.take k ∧ Mod NoB w w' | _ => False, fun l' _ => match l' with | [.i _ x] => (l.length - x).toNat | _ => 0, ⟨0, rfl, by omega, rfl, Mod.refl _ _⟩, ?_⟩
    rintro x w1 ⟨k, rfl, hk, hkk, hm1⟩
    refine condK_i (fun h => ?_) (fun h => ?_)
    · have hk' : k < l.length := by have := of_decide_eq_true h; omega
      have hm1d := hm1.tr (Mod.drew NoB w1)
      obtain ⟨hs, g1, g2, g3⟩ := ha.no hm1d
      obtain ⟨ht, f1, f2, f3⟩ := hb.no hm1d
      obtain ⟨A, ea, hra⟩ := rd_flat Hd.len (by omega) g1 (i := k) (by omega)
      obtain ⟨A', eb, hrb⟩ := rd_flat Hd.len (by omega) f1 (i := k) (by omega)
      rw [ea, eb]
      let p := hs[k]'(by omega)
      let q := ht[k]'(by omega)
      refine ⟨Mod NoB w1.drew, Mod.refl _ _, ⟨by omega, by omega⟩, ⟨by omega, by omega⟩, p.a, p.b, p.c, p.d, p.e, p.f, p.g, fun w' hm => hra.mod hm fun h => h, q.a, q.b, q.c, q.d, q.e, q.f, q.g, fun w' hm => hrb.mod hm fun h => h, ?_, trivial⟩
      refine callK_ret (c_sameRec (g3 k (by omega) hk') (f3 k (by omega) (by omega))) ?_
      rintro v w2 ⟨rfl, hm2⟩
      refine ⟨_, rfl, condK_i (fun hne => ⟨?_, hm1d.tr hm2⟩) (fun hne => ⟨⟨k + 1, wrap_i64 (e := (k : Int) + 1) (by omega), by omega, ?_, hm1d.tr hm2⟩, ?_⟩)⟩
      · have : l ≠ m := by rintro rfl; simp at hne
        simp [this]
      · have : l[k] = m[k]'(by omega) := by simpa using hne
        rw [take_snoc hk', take_snoc (by omega), hkk, this]
      · rw [wrap_i64 (e := (k : Int) + 1) (by omega)]; (try simp only []); omega
    · have hk' : k = l.length := by have := of_decide_eq_false h; omega
      rw [hk', List.take_length, hlen, List.take_length] at hkk
      exact ⟨by simp [hkk], hm1⟩
end
end Go.Proofs.YthaefcgpbccmbaaGreatDoor
end
section
namespace Go.Proofs.YthaefcgpbccmbaaGreatDoor
open Go Go.Sh
open Go.Proofs.Tryz
section
variable {w : World}
theorem c_Seal {seed : Slc} {sl : List UInt8} {h : Hd} {r : Rc} (hg : GlobS w) (hs : SlRd w seed 1 (bys sl)) (hsl : ∀ z, seed.blk = some z → z < w.heap.size) (hl : sl.length = 32) (H : HdAt w h r) (hsh : r.shaped = true) :
    Calls prog 55 #[.slice seed.a seed.len seed.cap, h.val] w (Ret fun v w' => ∃ (h' : Hd) (sg : List UInt8), v = .tuple #[h'.val, .int .i64 0] ∧ HdAt w' h' { r with sig := sg } ∧ sg.length = 64 ∧ HdNew w h' ∧ Mod NoB w w') := by
  refine call55 _ h.a h.b h.c h.d h.e h.f h.g ?_
  unfold sh55
  obtain ⟨ir, hr1, hr2, hr3, hr4⟩ := iRec
  obtain ⟨iw, hw1, hw2, hw3, hw4⟩ := iWork
  obtain ⟨sm1, sm2, sm3, sm4⟩ := H.sm
  refine sem_box (l := h.cells) rfl fun p w1 hN hb => ⟨_, rfl, ?_⟩
  refine sem_alloc (l := Hd.cells ⟨[], 0, 0, ⟨none, 0, 0⟩, false, ⟨none, 0, 0⟩, ⟨none, 0, 0⟩⟩) hr1 hr2 rfl fun x w2 hN2 hb2 => ⟨_, rfl, ?_⟩
  refine ⟨h.a, h.b, h.c, h.d, h.e, h.f, h.g, rdH (hb.no hN2.mod), ?_⟩
  refine sem_alloc (l := Hd.cells ⟨[], 0, 0, ⟨none, 0, 0⟩, false, ⟨none, 0, 0⟩, ⟨none, 0, 0⟩⟩) hw1 hw2 rfl fun q w3 hN3 hb3 => ⟨_, rfl, ?_⟩
  refine semU_hd (h := h) (by kernel_rfl) (by kernel_rfl) hb3 rfl fun w4 ht4 hq4 => ?_
  have e1 := hN.at_; have e2 := hN2.at_; have e3 := hN3.at_; have e4 := hN.size; have e5 := hN2.size; have e6 := hN3.size
  have hM4 : Mod NoB w w4 := ((hN.mod.tr hN2.mod).tr hN3.mod).fresh ht4.mod fun z e => by omega
  have hp4 := (hb.no (hN2.mod.tr hN3.mod)).mod ht4.mod (by omega)
  have hx4 := (hb2.no hN3.mod).mod ht4.mod (by omega)
  refine callK_ret (c_Public (hg.no hM4) (hs.no hM4) (fun z hz => Nat.lt_of_lt_of_le (hsl z hz) hM4.size) hl) ?_
  rintro v w5 ⟨b, lb, rfl, hlb, hbb, hsb, hm5⟩
  refine ⟨⟨some ⟨b, 0, none⟩, 32, 32⟩, rfl, ?_⟩
  refine ps_eql_slc (e := 5) u26 ⟨_, rfl, condK_i (fun h => by simp at h) fun _ => ?_⟩
  have hM5 := hM4.tr hm5
  refine ⟨h.a, h.b, h.c, h.d, h.e, h.f, h.g, rdH (hq4.no hm5), ?_⟩
  refine callK_ret (c_shaped (h := h) (H.no hM5)) ?_
  rintro u w7 ⟨rfl, hm7⟩
  rw [hsh]
  refine ⟨_, rfl, condK_i (fun h => by cases h) fun _ => ?_⟩
  have hm47 := hm5.tr hm7
  have hM7 := hM4.tr hm47
  refine ⟨h.a, h.b, h.c, h.d, h.e, h.f, h.g, rdH (hp4.no hm47), ?_⟩
  refine callK_ret (c_own (h := h) (H.no hM7)) ?_
  rintro u w9 ⟨h', rfl, H', hn', hm9⟩
  refine ⟨h'.a, h'.b, h'.c, h'.d, h'.e, h'.f, h'.g, rfl, ?_⟩
  have hm49 := hm47.tr hm9
  have hM9 := hM4.tr hm49
  have s4 : w4.heap.size = w3.heap.size := ht4.size
  have s7 := hm47.size
  refine semU_hd (h := h') (by kernel_rfl) (by kernel_rfl) (hp4.no hm49) rfl fun w10 ht10 hp10 => ?_
  have hM10 : Mod NoB w w10 := hM9.fresh ht10.mod fun z e => by omega
  have H10 : HdAt w10 h' r := H'.mod ht10.mod fun z hz e => by have := hn' z hz; omega
  have hq10 := (hq4.no hm49).mod ht10.mod (by omega)
  have hx10 := (hx4.no hm49).mod ht10.mod (by omega)
  refine ⟨h.a, h.b, h.c, h.d, h.e, h.f, h.g, rdH hq10, ?_⟩
  refine callL (c_rtext (h := h) (H.no hM10)) fun tx w11 hot hft hm11 => ?_
  refine rows_lit (wb := w11) [tx] [r.text] rfl rfl (by omega) (by omega) (Mod.refl _ _) rfl (rows1 hot.rd fun z hz => hot.lt hz) fun ty w12 hR hm12 _ => ⟨ty, rfl, ?_⟩
  have hm1012 := hm11.tr hm12
  have hM12 := hM10.tr hm1012
  obtain ⟨ss, o1, f1, l1, c1⟩ := hR
  refine callN (c_Sign (hg.no hM12) (hs.no hM12) (fun z hz => Nat.lt_of_lt_of_le (hsl z hz) hM12.size) hl o1.rd (fun z hz => o1.lt hz) l1 (fun i a b => ⟨(c1 i a b).1, fun z hz => ((c1 i a b).2 z hz).1⟩) (by have := text_len (r := r); simp; omega) (by simp)) fun sg lg w13 hog hlg hfg hm13 => ?_
  have hm1013 := hm1012.tr hm13
  have hM13 := hM10.tr hm1013
  refine semU_hd1 (i := 6) (by kernel_rfl) (by kernel_rfl) rfl (hp10.no hm1013) (by rw [Hd.len]; omega) fun w14 ht14 hp14 => ?_
  have hp14' : Blk w14 p (Hd.cells ⟨h'.a, h'.b, h'.c, h'.d, h'.e, h'.f, sg⟩) 40 := hp14
  refine ⟨h'.a, h'.b, h'.c, h'.d, h'.e, h'.f, sg, rdH hp14', ?_⟩
  refine semU_hd (h := ⟨h'.a, h'.b, h'.c, h'.d, h'.e, h'.f, sg⟩) (by kernel_rfl) (by kernel_rfl) ((hx10.no hm1013).mod ht14.mod (by omega)) rfl fun w15 ht15 hx15 => ?_
  refine ⟨h'.a, h'.b, h'.c, h'.d, h'.e, h'.f, sg, rdH hx15, ?_⟩
  have hm1315 : Mod (fun z => z = p ∨ z = x) w13 w15 := (ht14.mod.mono fun _ _ e => .inl e).tr (ht15.mod.mono fun _ _ e => .inr e)
  have hnew : ∀ z, h'.d.blk = some z ∨ h'.f.blk = some z ∨ h'.g.blk = some z → w7.heap.size ≤ z := hn'
  have hsg : ∀ z, sg.blk = some z → w12.heap.size ≤ z := hfg
  have s12 := hm1012.size; have s10 : w10.heap.size = w9.heap.size := ht10.size; have s9 := hm49.size
  have H13 := H10.no hm1013
  refine ⟨⟨h'.a, h'.b, h'.c, h'.d, h'.e, h'.f, sg⟩, lg, rfl, ⟨H'.key, H'.cl, H'.sq, H'.gone, H13.ctx.mod hm1315 fun z hz e => ?_, H13.val.mod hm1315 fun z hz e => ?_, hog.rd.mod hm1315 fun z hz e => ?_, ⟨sm1, sm2, sm3, by show lg.length ≤ 1000000; omega⟩, ?_⟩, hlg, ?_, hM13.fresh hm1315 fun z e => ?_⟩
  · have := hnew z (.inl hz); omega
  · have := hnew z (.inr (.inl hz)); omega
  · have := hsg z hz; omega
  · rintro z (hz | hz | hz)
    · exact Nat.lt_of_lt_of_le (H13.lt z (.inl hz)) hm1315.size
    · exact Nat.lt_of_lt_of_le (H13.lt z (.inr (.inl hz))) hm1315.size
    · exact Nat.lt_of_lt_of_le (hog.lt hz) hm1315.size
  · have s7' := hM7.size
    rintro z (hz | hz | hz)
    · exact Nat.le_trans s7' (hnew z (.inl hz))
    · exact Nat.le_trans s7' (hnew z (.inr (.inl hz)))
    · have := hsg z hz; have := hM12.size; omega
  · omega
end
def sh7 (w : World) (R : RW) : Prop :=
  callK prog 27 [.string ⟨([107]).toArray⟩, .int .i64 (1 : Int), .int .i64 (1 : Int), .slice none 0 0] w (panR R) fun v w1 => ∃ xa : List UInt8, ∃ xb xc : Int, ∃ xd : Slc, ∃ xe : Bool, ∃ xf xg : Slc, v = (zR xa xb xc xd xe xf xg) ∧ callK prog 27 [.string ⟨([107]).toArray⟩, .int .i64 (2 : Int), .int .i64 (1 : Int), .slice none 0 0] w1 (panR R) fun v1 w2 => ∃ xa1 : List UInt8, ∃ xb1 xc1 : Int, ∃ xd1 : Slc, ∃ xe1 : Bool, ∃ xf1 xg1 : Slc, v1 = (zR xa1 xb1 xc1 xd1 xe1 xf1 xg1) ∧ semK prog (Instr.alloc 40 true (.tuple #[])) w2 fun v2 w3 => ∃ a : Option Addr, v2 = (.pointer a) ∧ semK prog (Instr.alloc 40 true (.tuple #[])) w3 fun v3 w4 => ∃ b : Option Addr, v3 = (.pointer b) ∧ onSome a fun a1 => semU prog (storeVar 40 a1 (zR xa xb xc xd xe xf xg)) w4 fun w5 => onSome b fun a2 => semU prog (storeVar 40 a2 (zR xa1 xb1 xc1 xd1 xe1 xf1 xg1)) w5 fun w6 => semK prog (Instr.buildSlice 37 1 #[(0, (.agg #[.int .i64 (1 : Int), .int .i64 (1 : Int)]))]) w6 fun v4 w7 => ∃ x : Slc, v4 = (zS x) ∧ callK prog 27 [.string ⟨([107]).toArray⟩, .int .i64 (3 : Int), .int .i64 (1 : Int), zS x] w7 (panR R) fun v5 w8 => ∃ xa2 : List UInt8, ∃ xb2 xc2 : Int, ∃ xd2 : Slc, ∃ xe2 : Bool, ∃ xf2 xg2 : Slc, v5 = (zR xa2 xb2 xc2 xd2 xe2 xf2 xg2) ∧ semK prog (Instr.alloc 40 true (.tuple #[])) w8 fun v6 w9 => ∃ c : Option Addr, v6 = (.pointer c) ∧ onSome c fun a3 => semU prog (storeVar 40 a3 (zR xa2 xb2 xc2 xd2 xe2 xf2 xg2)) w9 fun w10 => ∃ sx : World → Prop, sx w10.drew ∧ onSome c fun a4 => ∃ xa3 : List UInt8, ∃ xb3 xc3 : Int, ∃ xd3 : Slc, ∃ xe3 : Bool, ∃ xf3 xg3 : Slc, (∀ w', sx w' → Rd w' a4 (yR xa3 xb3 xc3 xd3 xe3 xf3 xg3)) ∧ onSome a fun a5 => ∃ xa4 : List UInt8, ∃ xb4 xc4 : Int, ∃ xd4 : Slc, ∃ xe4 : Bool, ∃ xf4 xg4 : Slc, (∀ w', sx w' → Rd w' a5 (yR xa4 xb4 xc4 xd4 xe4 xf4 xg4)) ∧ onSome b fun a6 => ∃ xa5 : List UInt8, ∃ xb5 xc5 : Int, ∃ xd5 : Slc, ∃ xe5 : Bool, ∃ xf5 xg5 : Slc, (∀ w', sx w' → Rd w' a6 (yR xa5 xb5 xc5 xd5 xe5 xf5 xg5)) ∧ onSome b fun a7 => ∃ xa6 : List UInt8, ∃ xb6 xc6 : Int, ∃ xd6 : Slc, ∃ xe6 : Bool, ∃ xf6 xg6 : Slc, (∀ w', sx w' → Rd w' a7 (yR xa6 xb6 xc6 xd6 xe6 xf6 xg6)) ∧ onSome c fun a8 => ∃ xa7 : List UInt8, ∃ xb7 xc7 : Int, ∃ xd7 : Slc, ∃ xe7 : Bool, ∃ xf7 xg7 : Slc, (∀ w', sx w' → Rd w' a8 (yR xa7 xb7 xc7 xd7 xe7 xf7 xg7)) ∧ ((semK prog (Instr.buildSlice 22 3 #[(0, (zR xa3 xb3 xc3 xd3 xe3 xf3 xg3)), (1, (zR xa4 xb4 xc4 xd4 xe4 xf4 xg4)), (2, (zR xa5 xb5 xc5 xd5 xe5 xf5 xg5))]) w10.drew fun v7 w11 => ∃ x1 : Slc, v7 = (zS x1) ∧ (sx w11 ∧ ((callK prog 11 [zS x1] w11 (panR R) fun v8 w12 => ∃ x2 : Slc, v8 = (zS x2) ∧ (sx w12 ∧ ((semK prog (Instr.buildSlice 22 2 #[(0, (zR xa6 xb6 xc6 xd6 xe6 xf6 xg6)), (1, (zR xa7 xb7 xc7 xd7 xe7 xf7 xg7))]) w12 fun v9 w13 => ∃ x3 : Slc, v9 = (zS x3) ∧ (sx w13 ∧ ((callK prog 14 [zS x2, zS x3] w13 (panR R) fun v10 w14 => ∃ x4 : Bool, v10 = (.bool x4) ∧ (sx w14 ∧ condK x4 (onSome a fun a9 => ∃ xa8 : List UInt8, ∃ xb8 xc8 : Int, ∃ xd8 : Slc, ∃ xe8 : Bool, ∃ xf8 xg8 : Slc, (∀ w', sx w' → Rd w' a9 (yR xa8 xb8 xc8 xd8 xe8 xf8 xg8)) ∧ onSome b fun a10 => ∃ xa9 : List UInt8, ∃ xb9 xc9 : Int, ∃ xd9 : Slc, ∃ xe9 : Bool, ∃ xf9 xg9 : Slc, (∀ w', sx w' → Rd w' a10 (yR xa9 xb9 xc9 xd9 xe9 xf9 xg9)) ∧ onSome c fun a11 => ∃ xa10 : List UInt8, ∃ xb10 xc10 : Int, ∃ xd10 : Slc, ∃ xe10 : Bool, ∃ xf10 xg10 : Slc, (∀ w', sx w' → Rd w' a11 (yR xa10 xb10 xc10 xd10 xe10 xf10 xg10)) ∧ ((semK prog (Instr.buildSlice 22 3 #[(0, (zR xa8 xb8 xc8 xd8 xe8 xf8 xg8)), (1, (zR xa9 xb9 xc9 xd9 xe9 xf9 xg9)), (2, (zR xa10 xb10 xc10 xd10 xe10 xf10 xg10))]) w14 fun v11 w15 => ∃ x5 : Slc, v11 = (zS x5) ∧ (sx w15 ∧ ((callK prog 10 [zS x5] w15 (panR R) fun v12 w16 => ∃ x6 : Slc, v12 = (zS x6) ∧ (sx w16 ∧ R (.returned (.bool ((x6.len : Int) == (1 : Int)))) w16)) ∧ True))) ∧ True)) ((((sx w14 ∧ (((sx w14 ∧ R (.returned (.bool false)) w14)) ∧ True))) ∧ True)))) ∧ True))) ∧ True))) ∧ (semK prog (Instr.buildSlice 22 2 #[(0, (zR xa6 xb6 xc6 xd6 xe6 xf6 xg6)), (1, (zR xa7 xb7 xc7 xd7 xe7 xf7 xg7))]) w11 fun v13 w17 => ∃ x7 : Slc, v13 = (zS x7) ∧ (sx w17 ∧ ((callK prog 11 [zS x1] w17 (panR R) fun v14 w18 => ∃ x8 : Slc, v14 = (zS x8) ∧ (sx w18 ∧ ((callK prog 14 [zS x8, zS x7] w18 (panR R) fun v15 w19 => ∃ x9 : Bool, v15 = (.bool x9) ∧ (sx w19 ∧ condK x9 (onSome a fun a12 => ∃ xa11 : List UInt8, ∃ xb11 xc11 : Int, ∃ xd11 : Slc, ∃ xe11 : Bool, ∃ xf11 xg11 : Slc, (∀ w', sx w' → Rd w' a12 (yR xa11 xb11 xc11 xd11 xe11 xf11 xg11)) ∧ onSome b fun a13 => ∃ xa12 : List UInt8, ∃ xb12 xc12 : Int, ∃ xd12 : Slc, ∃ xe12 : Bool, ∃ xf12 xg12 : Slc, (∀ w', sx w' → Rd w' a13 (yR xa12 xb12 xc12 xd12 xe12 xf12 xg12)) ∧ onSome c fun a14 => ∃ xa13 : List UInt8, ∃ xb13 xc13 : Int, ∃ xd13 : Slc, ∃ xe13 : Bool, ∃ xf13 xg13 : Slc, (∀ w', sx w' → Rd w' a14 (yR xa13 xb13 xc13 xd13 xe13 xf13 xg13)) ∧ ((semK prog (Instr.buildSlice 22 3 #[(0, (zR xa11 xb11 xc11 xd11 xe11 xf11 xg11)), (1, (zR xa12 xb12 xc12 xd12 xe12 xf12 xg12)), (2, (zR xa13 xb13 xc13 xd13 xe13 xf13 xg13))]) w19 fun v16 w20 => ∃ x10 : Slc, v16 = (zS x10) ∧ (sx w20 ∧ ((callK prog 10 [zS x10] w20 (panR R) fun v17 w21 => ∃ x11 : Slc, v17 = (zS x11) ∧ (sx w21 ∧ R (.returned (.bool ((x11.len : Int) == (1 : Int)))) w21)) ∧ True))) ∧ True)) ((((sx w19 ∧ (((sx w19 ∧ R (.returned (.bool false)) w19)) ∧ True))) ∧ True)))) ∧ True))) ∧ True))) ∧ True))) ∧ (semK prog (Instr.buildSlice 22 2 #[(0, (zR xa6 xb6 xc6 xd6 xe6 xf6 xg6)), (1, (zR xa7 xb7 xc7 xd7 xe7 xf7 xg7))]) w10.drew fun v18 w22 => ∃ x12 : Slc, v18 = (zS x12) ∧ (sx w22 ∧ ((semK prog (Instr.buildSlice 22 3 #[(0, (zR xa3 xb3 xc3 xd3 xe3 xf3 xg3)), (1, (zR xa4 xb4 xc4 xd4 xe4 xf4 xg4)), (2, (zR xa5 xb5 xc5 xd5 xe5 xf5 xg5))]) w22 fun v19 w23 => ∃ x13 : Slc, v19 = (zS x13) ∧ (sx w23 ∧ ((callK prog 11 [zS x13] w23 (panR R) fun v20 w24 => ∃ x14 : Slc, v20 = (zS x14) ∧ (sx w24 ∧ ((callK prog 14 [zS x14, zS x12] w24 (panR R) fun v21 w25 => ∃ x15 : Bool, v21 = (.bool x15) ∧ (sx w25 ∧ condK x15 (onSome a fun a15 => ∃ xa14 : List UInt8, ∃ xb14 xc14 : Int, ∃ xd14 : Slc, ∃ xe14 : Bool, ∃ xf14 xg14 : Slc, (∀ w', sx w' → Rd w' a15 (yR xa14 xb14 xc14 xd14 xe14 xf14 xg14)) ∧ onSome b fun a16 => ∃ xa15 : List UInt8, ∃ xb15 xc15 : Int, ∃ xd15 : Slc, ∃ xe15 : Bool, ∃ xf15 xg15 : Slc, (∀ w', sx w' → Rd w' a16 (yR xa15 xb15 xc15 xd15 xe15 xf15 xg15)) ∧ onSome c fun a17 => ∃ xa16 : List UInt8, ∃ xb16 xc16 : Int, ∃ xd16 : Slc, ∃ xe16 : Bool, ∃ xf16 xg16 : Slc, (∀ w', sx w' → Rd w' a17 (yR xa16 xb16 xc16 xd16 xe16 xf16 xg16)) ∧ ((semK prog (Instr.buildSlice 22 3 #[(0, (zR xa14 xb14 xc14 xd14 xe14 xf14 xg14)), (1, (zR xa15 xb15 xc15 xd15 xe15 xf15 xg15)), (2, (zR xa16 xb16 xc16 xd16 xe16 xf16 xg16))]) w25 fun v22 w26 => ∃ x16 : Slc, v22 = (zS x16) ∧ (sx w26 ∧ ((callK prog 10 [zS x16] w26 (panR R) fun v23 w27 => ∃ x17 : Slc, v23 = (zS x17) ∧ (sx w27 ∧ R (.returned (.bool ((x17.len : Int) == (1 : Int)))) w27)) ∧ True))) ∧ True)) ((((sx w25 ∧ (((sx w25 ∧ R (.returned (.bool false)) w25)) ∧ True))) ∧ True)))) ∧ True))) ∧ True))) ∧ True))) ∧ True)
theorem call7 {w : World} {R : RW} (hden : sh7 w R) : Calls prog 7 #[] w R :=
  calls_of_form (q0 .z (q0 .z (q0 .z (q0 (.draw 1 (.take 0 (.take 1 (.take 2 (.take 5 (.take 6 (.all [(3, (.all [(4, (.all [(7, (.all [(8, (.take 9 (.take 10 (.take 11 (.take 12 (.all [(13, (.all [(14, (.take 15 (.take 16 (.take 17 (.take 18 .done)))))]))]))))))]))])), (7, (.all [(4, (.all [(8, (.take 9 (.take 10 (.take 11 (.take 12 (.all [(13, (.all [(14, (.take 15 (.take 16 (.take 17 (.take 18 .done)))))]))]))))))]))]))])), (7, (.all [(3, (.all [(4, (.all [(8, (.take 9 (.take 10 (.take 11 (.take 12 (.all [(13, (.all [(14, (.take 15 (.take 16 (.take 17 (.take 18 .done)))))]))]))))))]))]))]))]))))))) .z)))) func7 (by kernel_rfl) [] (by kernel_rfl) (by kernel_rfl) hden
def sh8 (l : Slc) (w : World) (R : RW) : Prop :=
  ∃ (inv : List TV → World → Prop) (mu : List TV → World → Nat), inv [.i .i64 (0 : Int)] w ∧ (∀ i : Int, ∀ w1 : World, inv [.i .i64 i] w1 → ∃ j : List TV → World → Prop, (condK (decide (i < (l.len : Int))) (j [.b (decide (i < (17 : Int)))] w1) (j [.b false] w1)) ∧ (∀ x : Bool, ∀ w2 : World, j [.b x] w2 → condK x (((0 ≤ i ∧ i < (l.len : Nat)) ∧ onSome l.a fun a => ∃ x1 : List UInt8, Rd w2 ((a.add (i.toNat * 7)).add 0) [.string ⟨x1.toArray⟩] ∧ condK (decide ((x1.length : Int) > (200 : Int))) (R (.returned (.bool false)) w2) (((0 ≤ i ∧ i < (l.len : Nat)) ∧ onSome l.a fun a1 => ∃ x2 : Slc, Rd w2 ((a1.add (i.toNat * 7)).add 5) [zS x2] ∧ condK (decide ((x2.len : Int) > (2000 : Int))) (R (.returned (.bool false)) w2) (((0 ≤ i ∧ i < (l.len : Nat)) ∧ onSome l.a fun a2 => ∃ x3 : Slc, Rd w2 ((a2.add (i.toNat * 7)).add 3) [zS x3] ∧ condK (decide ((x3.len : Int) > (50 : Int))) (R (.returned (.bool false)) w2) (((0 ≤ i ∧ i < (l.len : Nat)) ∧ onSome l.a fun a3 => ∃ x4 : Slc, Rd w2 ((a3.add (i.toNat * 7)).add 6) [zS x4] ∧ condK (decide ((x4.len : Int) > (200 : Int))) (R (.returned (.bool false)) w2) ((inv [.i .i64 (IntKind.i64.wrap (i + (1 : Int)))] w2 ∧ mu [.i .i64 (IntKind.i64.wrap (i + (1 : Int)))] w2 < mu [.i .i64 i] w1)))))))))) (R (.returned (.bool (decide ((l.len : Int) ≤ (16 : Int))))) w2)))
theorem call8 (l : Slc) {w : World} {R : RW} (hden : sh8 l w R) : Calls prog 8 #[zS l] w R :=
  calls_of_form (q0 .z (q0 (q0 .z (.block none (.loop [(3, (.i .i64))] (q0 (.seq (some [(11, .b)]) .z (.cond .z .z)) (q0 (.block none (q0 .z (.cond (q0 .z .z) .z))) .z))))) (q0 .z .z))) func8 (by kernel_rfl) [.sl l] (by kernel_rfl) (by kernel_rfl) hden
def sh27 (key : List UInt8) (client seq : Int) (context : Slc) (w : World) (R : RW) : Prop :=
  semK prog (Instr.alloc 40 true (.tuple #[])) w fun v w1 => ∃ x : Option Addr, v = (.pointer x) ∧ callK prog 56 [.int .i64 client] w1 (panR R) fun v1 w2 => ∃ x1 : Slc, v1 = (zS x1) ∧ callK prog 55 [zS x1, .agg #[.string ⟨key.toArray⟩, .int .i64 client, .int .i64 seq, zS context, .bool false, .slice none 0 0, .slice none 0 0]] w2 (panR R) fun v2 w3 => ∃ xaa : List UInt8, ∃ xab xac : Int, ∃ xad : Slc, ∃ xae : Bool, ∃ xaf xag : Slc, ∃ xb : Int, v2 = (.tuple #[zR xaa xab xac xad xae xaf xag, .int .i64 xb]) ∧ semK prog (Instr.alloc 40 true (.tuple #[])) w3 fun v3 w4 => ∃ r : Option Addr, v3 = (.pointer r) ∧ onSome r fun a => semU prog (storeVar 40 a (zR xaa xab xac xad xae xaf xag)) w4 fun w5 => onSome r fun a1 => ∃ xa : List UInt8, ∃ xb1 xc : Int, ∃ xd : Slc, ∃ xe : Bool, ∃ xf xg : Slc, Rd w5 a1 (yR xa xb1 xc xd xe xf xg) ∧ onSome x fun a2 => semU prog (storeVar 40 a2 (zR xa xb1 xc xd xe xf xg)) w5 fun w6 => onSome x fun a3 => ∃ xa1 : List UInt8, ∃ xb2 xc1 : Int, ∃ xd1 : Slc, ∃ xe1 : Bool, ∃ xf1 xg1 : Slc, Rd w6 a3 (yR xa1 xb2 xc1 xd1 xe1 xf1 xg1) ∧ R (.returned (zR xa1 xb2 xc1 xd1 xe1 xf1 xg1)) w6
theorem call27 (key : List UInt8) (client seq : Int) (context : Slc) {w : World} {R : RW} (hden : sh27 key client seq context w R) : Calls prog 27 #[.string ⟨key.toArray⟩, .int .i64 client, .int .i64 seq, zS context] w R :=
  calls_of_form (q0 .z (q0 .z (q0 .z .z))) func27 (by kernel_rfl) [.s key, .i .i64 client, .i .i64 seq, .sl context] (by kernel_rfl) (by kernel_rfl) hden
def sh56 (client : Int) (w : World) (R : RW) : Prop :=
  semK prog (Instr.makeSlice 38 (.int .i64 (32 : Int)) (.int .i64 (32 : Int))) w fun v w1 => ∃ x : Slc, v = (zS x) ∧ ∃ (inv : List TV → World → Prop) (mu : List TV → World → Nat), inv [.i .i64 (0 : Int)] w1 ∧ (∀ i : Int, ∀ w2 : World, inv [.i .i64 i] w2 → condK (decide (i < (32 : Int))) (((0 ≤ i ∧ i < (x.len : Nat)) ∧ onSome x.a fun a => semU prog (storeVar 5 (a.add (i.toNat * 1)) (.int .u8 ((u8OfInt (IntKind.i64.wrap ((IntKind.i64.wrap (client * (7 : Int))) + i)))).toNat)) w2 fun w3 => (inv [.i .i64 (IntKind.i64.wrap (i + (1 : Int)))] w3 ∧ mu [.i .i64 (IntKind.i64.wrap (i + (1 : Int)))] w3 < mu [.i .i64 i] w2))) (R (.returned (zS x)) w2))
theorem call56 (client : Int) {w : World} {R : RW} (hden : sh56 client w R) : Calls prog 56 #[.int .i64 client] w R :=
  calls_of_form (q0 .z (q0 .z (q0 (q0 .z (.block none (.loop [(4, (.i .i64))] (q0 (q0 .z (.cond .z .z)) (q0 (.block none .z) .z))))) (q0 .z .z)))) func56 (by kernel_rfl) [.i .i64 client] (by kernel_rfl) (by kernel_rfl) hden
end Go.Proofs.YthaefcgpbccmbaaGreatDoor
end
section
namespace Go.Proofs.YthaefcgpbccmbaaGreatDoor
open Go Go.Sh Go.MapKept
open Go.Proofs.Tryz
section
variable {w : World}
theorem c_seed {client : Int} : Calls prog 56 #[.int .i64 client] w (Ret (RN 32 w)) := by
  refine call56 _ ?_
  unfold sh56
  obtain ⟨i5', h51, h52, h53, h54⟩ := i5
  refine sem_makeSlice (l := 32) (c := 32) u26 h51 h52 h53 rfl h54 rfl rfl (by omega) (by omega) (by omega) fun e w1 hN1 hb1 ho1 => ⟨⟨some ⟨e, 0, none⟩, 32, 32⟩, rfl, ?_⟩
  rw [bys_rep] at ho1
  have hat := hN1.at_
  refine ⟨fun l' w' => match l' with | [.i _ x] => ∃ (k : Nat) (l : List UInt8), x = k ∧ l.length = 32 ∧ Sh.Own w' ⟨some ⟨e, 0, none⟩, 32, 32⟩ 1 (bys l) ∧ Mod NoB w w' | _ => False, fun l' _ => match l' with | [.i _ x] => (32 - x).toNat | _ => 0,
    ⟨0, List.replicate 32 0, rfl, by simp, ho1, hN1.mod⟩, ?_⟩
  rintro x w2 ⟨k, l, rfl, hl, ho2, hm2⟩
  refine condK_i (fun hlt => ?_) fun hge => ?_
  · have hk : k < 32 := by have := of_decide_eq_true hlt; omega
    refine ⟨⟨by omega, by show (k : Int) < ((32 : Nat) : Int); omega⟩, ?_⟩
    simp only [Int.toNat_natCast]
    refine semU_own1 (by kernel_rfl) (by kernel_rfl) rfl ho2 rfl hk fun w3 ho3 hm3 hs3 => ⟨⟨k + 1, _, wrap_nat (by omega), ?_, by rw [bys_set] at ho3; exact ho3, hm2.fresh hm3 fun z hz => ?_⟩, ?_⟩
    · simp [hl]
    · rw [Slc.blk_mk, if_neg (by omega)] at hz; cases hz; omega
    · rw [wrap_nat (by omega)]; (try simp only []); omega
  · exact ⟨⟨some ⟨e, 0, none⟩, 32, 32⟩, l, rfl, ho2, hl, FB.new (by omega), hm2⟩
theorem c_lwrite {key : List UInt8} {cl sq : Int} {ctx : Slc} {cx : List (Int × Int)} (hg : GlobS w) (hc : SlRd w ctx 2 (dts cx)) (hcl : ∀ z, ctx.blk = some z → z < w.heap.size)
    (hk : key.length ≤ 1000000) (hcx : cx.length ≤ 1000000) (hsh : Rc.shaped ⟨key, cl, sq, cx, false, [], []⟩ = true) :
    Calls prog 27 #[.string ⟨key.toArray⟩, .int .i64 cl, .int .i64 sq, .slice ctx.a ctx.len ctx.cap] w (Ret fun v w' => ∃ (h' : Hd) (sg : List UInt8), v = h'.val ∧ HdAt w' h' ⟨key, cl, sq, cx, false, [], sg⟩ ∧ sg.length = 64 ∧ HdNew w h' ∧ Mod NoB w w') := by
  refine call27 _ _ _ _ ?_
  unfold sh27
  obtain ⟨ir, hr1, hr2, hr3, hr4⟩ := iRec
  refine sem_alloc (l := Hd.cells ⟨[], 0, 0, ⟨none, 0, 0⟩, false, ⟨none, 0, 0⟩, ⟨none, 0, 0⟩⟩) hr1 hr2 rfl fun x w1 hN1 hb1 => ⟨_, rfl, ?_⟩
  refine callN c_seed fun s l w2 hos hl hfs hm2 => ?_
  have hM2 := hN1.mod.tr hm2
  have H : HdAt w2 ⟨key, cl, sq, ctx, false, ⟨none, 0, 0⟩, ⟨none, 0, 0⟩⟩ ⟨key, cl, sq, cx, false, [], []⟩ :=
    ⟨rfl, rfl, rfl, rfl, hc.no hM2, rd_nil _ _, rd_nil _ _, ⟨hk, hcx, by simp, by simp⟩, fun z hz => by
      rcases hz with hz | hz | hz
      · exact Nat.lt_of_lt_of_le (hcl z hz) hM2.size
      · simp at hz
      · simp at hz⟩
  refine callK_ret (c_Seal (h := ⟨key, cl, sq, ctx, false, ⟨none, 0, 0⟩, ⟨none, 0, 0⟩⟩) (hg.no hM2) hos.rd (fun z hz => hos.lt hz) hl H hsh) ?_
  rintro v w3 ⟨h', sg, rfl, H', hsg, hnew, hm3⟩
  refine ⟨h'.a, h'.b, h'.c, h'.d, h'.e, h'.f, h'.g, 0, rfl, ?_⟩
  refine sem_alloc (l := Hd.cells ⟨[], 0, 0, ⟨none, 0, 0⟩, false, ⟨none, 0, 0⟩, ⟨none, 0, 0⟩⟩) hr1 hr2 rfl fun r w4 hN4 hb4 => ⟨_, rfl, ?_⟩
  have hM3 := hM2.tr hm3
  have s1 := hN1.size; have a1 := hN1.at_; have a4 := hN4.at_; have s3 := hM3.size; have s23 := (hm2.tr hm3).size; have s4 := hN4.size
  refine semU_hd (h := h') (by kernel_rfl) (by kernel_rfl) hb4 rfl fun w5 ht5 hb5 => ?_
  have hm5 : Mod NoB w3 w5 := hN4.mod.fresh ht5.mod fun z e => by omega
  refine ⟨h'.a, h'.b, h'.c, h'.d, h'.e, h'.f, h'.g, rdH hb5, ?_⟩
  have hx5 := (hb1.no (hm2.tr (hm3.tr hm5)))
  refine semU_hd (h := h') (by kernel_rfl) (by kernel_rfl) hx5 rfl fun w6 ht6 hb6 => ?_
  refine ⟨h'.a, h'.b, h'.c, h'.d, h'.e, h'.f, h'.g, rdH hb6, h', sg, rfl, (H'.no hm5).mod ht6.mod fun z hz e => ?_, hsg, fun z hz => ?_, (hM3.tr hm5).fresh ht6.mod fun z e => by omega⟩
  · have := hnew z hz; have := hM2.size; have := hm2.size; omega
  · have := hnew z hz; have := hM2.size; omega
end
def lim (r : Rc) : Prop := r.key.length ≤ 200 ∧ r.val.length ≤ 2000 ∧ r.ctx.length ≤ 50 ∧ r.sig.length ≤ 200
def lightQ (l : List Rc) : Prop := l.length ≤ 16 ∧ ∀ r ∈ l, lim r
theorem rd_fld {w : World} {a : Addr} {vs : List Value} {j : Nat} {v : Value} (h : Rd w a vs) (hj : vs[j]? = some v) : Rd w (a.add j) [v] := rd1_iff.2 (h j v hj)
theorem c_light {w : World} {s : Slc} {ls : List Rc} (hl : RecsIn w s ls) (hn : s.len ≤ 9000000000000000000) :
    Calls prog 8 #[.slice s.a s.len s.cap] w (Ret fun v w' => ∃ b, v = .bool b ∧ (b = true → lightQ ls) ∧ w' = w) := by
  refine call8 _ ?_
  unfold sh8
  have hlen := hl.len
  obtain ⟨hs, g1, g2, g3, g4⟩ := hl
  refine ⟨fun l' w' => match l' with | [.i _ x] => ∃ k : Nat, x = k ∧ k ≤ 17 ∧ k ≤ ls.length ∧ (∀ r ∈ ls.take k, lim r) ∧ w' = w | _ => False, fun l' _ => match l' with | [.i _ x] => (17 - x).toNat | _ => 0, ⟨0, rfl, by omega, by omega, by simp, rfl⟩, ?_⟩
  rintro x w1 ⟨k, rfl, hk, hkl, hk2, rfl⟩
  refine ⟨fun l' w' => match l' with | [.b t] => t = decide (k < ls.length ∧ k < 17) ∧ w' = w1 | _ => False, condK_i (fun h => ⟨?_, rfl⟩) (fun h => ⟨?_, rfl⟩), ?_⟩
  · have := of_decide_eq_true h
    exact decide_eq_decide.2 ⟨fun _ => ⟨by omega, by omega⟩, fun _ => by omega⟩
  · have := of_decide_eq_false h
    exact (decide_eq_false (by omega)).symm
  · rintro x w2 ⟨rfl, rfl⟩
    refine condK_i (fun h => ?_) fun h => ?_
    · have h := of_decide_eq_true h
      have hk' : k < hs.length := by omega
      obtain ⟨A, ea, hrd⟩ := rd_flat Hd.len (by omega) g1 hk'
      have H := g4 k hk' (by omega)
      have hc := rd_lenD H.ctx
      have hv := rd_len8 H.val
      have hg := rd_len8 H.sig
      rw [ea]
      refine ⟨⟨by omega, by omega⟩, hs[k].a, rd_fld (j := 0) hrd rfl, condK_i (fun h1 => ⟨false, rfl, (fun h => by cases h), rfl⟩) fun h1 => ?_⟩
      have h1 := of_decide_eq_false h1
      refine ⟨⟨by omega, by omega⟩, hs[k].f, rd_fld (j := 5) hrd rfl, condK_i (fun h2 => ⟨false, rfl, (fun h => by cases h), rfl⟩) fun h2 => ?_⟩
      have h2 := of_decide_eq_false h2
      refine ⟨⟨by omega, by omega⟩, hs[k].d, rd_fld (j := 3) hrd rfl, condK_i (fun h3 => ⟨false, rfl, (fun h => by cases h), rfl⟩) fun h3 => ?_⟩
      have h3 := of_decide_eq_false h3
      refine ⟨⟨by omega, by omega⟩, hs[k].g, rd_fld (j := 6) hrd rfl, condK_i (fun h4 => ⟨false, rfl, (fun h => by cases h), rfl⟩) fun h4 => ?_⟩
      have h4 := of_decide_eq_false h4
      refine ⟨⟨k + 1, wrap_nat (by omega), by omega, by omega, fun r hr => ?_, rfl⟩, ?_⟩
      · rw [take_snoc (show k < ls.length by omega)] at hr
        rcases List.mem_append.1 hr with hr | hr
        · exact hk2 r hr
        · simp at hr; subst hr
          rw [H.key] at h1
          exact ⟨by omega, by omega, by omega, by omega⟩
      · rw [wrap_nat (by omega)]; (try simp only []); omega
    · have h := of_decide_eq_false h
      refine ⟨_, rfl, fun hb => ?_, rfl⟩
      have hb := of_decide_eq_true hb
      rw [List.take_of_length_le (by omega)] at hk2
      exact ⟨by omega, hk2⟩
theorem RecsIn.at {w : World} {s : Slc} {ls : List Rc} (h : RecsIn w s ls) (hq : lightQ ls) : RecsAt w.heap.size w s ls := by
  obtain ⟨hs, h1, h2, h3, h4⟩ := h
  refine ⟨hs, h1, h2, h3, fun i a b => ⟨(h4 i a b).at ?_, fun z hz => (h4 i a b).lt z hz⟩⟩
  have := hq.2 ls[i] (List.getElem_mem _)
  exact ⟨by have := this.1; omega, by have := this.2.2.1; omega, by have := this.2.1; omega, by have := this.2.2.2; omega⟩
end Go.Proofs.YthaefcgpbccmbaaGreatDoor
end
section
namespace Go.Sh
def exA (s : List UInt8) : Rc := ⟨[107], 1, 1, [], false, [], s⟩
def exB (s : List UInt8) : Rc := ⟨[107], 2, 1, [], false, [], s⟩
def exC (s : List UInt8) : Rc := ⟨[107], 3, 1, [(1, 1)], false, [], s⟩
theorem exA_r {s : List UInt8} (h : s.length = 64) : (exA s).right = true := by simp only [Rc.right, exA, h]; rfl
theorem exB_r {s : List UInt8} (h : s.length = 64) : (exB s).right = true := by simp only [Rc.right, exB, h]; rfl
theorem exC_r {s : List UInt8} (h : s.length = 64) : (exC s).right = true := by simp only [Rc.right, exC, h]; rfl
theorem ex_leaves {sa sb sc : List UInt8} (ha : sa.length = 64) (hb : sb.length = 64) (hc : sc.length = 64) {ls : List Rc} (hs : ∀ r, r ∈ ls ↔ r = exA sa ∨ r = exB sb ∨ r = exC sc) {L : List (List UInt8 × List Rc)} (h : IsLeaves ls L) :
    L = [([107], [exB sb, exC sc])] := by
  have hr : ∀ k r, r ∈ rightOf ls k ↔ k = [107] ∧ (r = exA sa ∨ r = exB sb ∨ r = exC sc) := fun k r => by
    simp only [rightOf, List.mem_filter, hs, Bool.and_eq_true, decide_eq_true_eq]
    constructor
    · rintro ⟨rfl | rfl | rfl, _, h2⟩
      · exact ⟨h2.symm, .inl rfl⟩
      · exact ⟨h2.symm, .inr (.inl rfl)⟩
      · exact ⟨h2.symm, .inr (.inr rfl)⟩
    · rintro ⟨rfl, rfl | rfl | rfl⟩
      · exact ⟨.inl rfl, exA_r ha, rfl⟩
      · exact ⟨.inr (.inl rfl), exB_r hb, rfl⟩
      · exact ⟨.inr (.inr rfl), exC_r hc, rfl⟩
  have hcp : IsComp (rightOf ls [107]) [exA sa, exB sb, exC sc] := by
    refine ⟨?_, fun r => ?_⟩
    · simp only [List.pairwise_cons, List.mem_cons, List.not_mem_nil, or_false, forall_eq_or_imp, forall_eq, dotLt, exA, exB, exC]
      refine ⟨⟨.inl (by decide), .inl (by decide)⟩, .inl (by decide), fun a h => h.elim, List.Pairwise.nil⟩
    · rw [hr]
      simp only [List.mem_cons, List.not_mem_nil, or_false, true_and]
      constructor
      · intro hm
        refine ⟨hm, fun r' hr' h1 _ => ?_⟩
        rw [hr] at hr'
        have : r' = r := by
          rcases hm with rfl | rfl | rfl <;> rcases hr'.2 with rfl | rfl | rfl <;> first | rfl | exact absurd h1 (by simp [exA, exB, exC])
        subst this
        exact List.lt_irrefl _
      · exact fun h => h.1
  have e : joinOf [exA sa, exB sb, exC sc] = [exB sb, exC sc] := by
    have o1 : (exC sc).over (exA sa) = true := by rfl
    have o2 : (exB sb).over (exA sa) = false := by rfl
    have o3 : (exA sa).over (exB sb) = false := by rfl
    have o4 : (exC sc).over (exB sb) = false := by rfl
    have o5 : (exA sa).over (exC sc) = false := by rfl
    have o6 : (exB sb).over (exC sc) = false := by rfl
    simp only [joinOf, List.filter_cons, List.filter_nil, List.any_cons, List.any_nil, o1, o2, o3, o4, o5, o6]
    simp [exA, exB, exC]
  refine h.uniq (l' := ls) ⟨?_, fun k s => ?_⟩ fun r => Iff.rfl
  · exact List.pairwise_cons.2 ⟨fun a h => by simp at h, List.Pairwise.nil⟩
  · simp only [List.mem_cons, List.not_mem_nil, or_false, Prod.mk.injEq]
    constructor
    · rintro ⟨rfl, rfl⟩
      exact ⟨by simp, _, hcp, e.symm⟩
    · rintro ⟨h1, c, hc1, rfl⟩
      by_cases hk : k = [107]
      · subst hk
        refine ⟨rfl, ?_⟩
        rw [hc1.uniq hcp fun r => Iff.rfl, e]
      · have : c = [] := List.eq_nil_iff_forall_not_mem.2 fun r hr' => hk ((hr k r).1 ((hc1.mem r).1 hr').1).1
        subst this
        exact absurd rfl h1
end Go.Sh
end
section
namespace Go.Proofs.YthaefcgpbccmbaaGreatDoor
open Go Go.Sh Go.MapKept
open Go.Proofs.Tryz
theorem recsAt_lit {w : World} {b n : Nat} {T : TypeId} {hs : List Hd} {rs : List Rc} (hb : Blk w b (hcells hs) T) (hn : hs.length = n) (hl : rs.length = n) (hI : ∀ i (h : i < hs.length) (h' : i < rs.length), HdAt w hs[i] rs[i]) :
    RecsAt w.heap.size w ⟨some ⟨b, 0, none⟩, n, n⟩ rs :=
  ⟨hs, (own_whole (n := n) (k := 7) hb (by rw [hcells, flatC_len Hd.len, hn])).rd, fun z hz => by
    rw [Slc.blk_mk] at hz
    split at hz
    · cases hz
    · cases hz; exact hb.lt, by omega, fun i a b => ⟨hI i a b, fun z hz => (hI i a b).lt z hz⟩⟩
theorem sem_recs2 {w : World} {K : Value → World → Prop} {h1 h2 : Hd} {r1 r2 : Rc} (H1 : HdAt w h1 r1) (H2 : HdAt w h2 r2)
    (hK : ∀ (x : Slc) w', Mod NoB w w' → RecsAt w'.heap.size w' x [r1, r2] → K (.slice x.a x.len x.cap) w') : semK prog (Instr.buildSlice 22 2 #[(0, h1.val), (1, h2.val)]) w K := by
  obtain ⟨ir, hr1, hr2, hr3, hr4⟩ := iRec
  refine sem_lit [h1.val, h2.val] (l := hcells [h1, h2]) uRecs hr1 hr2 hr3 (by omega) rfl (by omega) (by omega) rfl (by intro v hv; simp at hv; rcases hv with rfl | rfl <;> rfl) (by simp [hcells, flatC, Value.cells, Hd.val]) fun lb w8 hN8 hb8 => hK ⟨some ⟨lb, 0, none⟩, 2, 2⟩ w8 hN8.mod (recsAt_lit hb8 rfl rfl fun i a b => ?_)
  match i, a with
  | 0, _ => exact H1.no hN8.mod
  | 1, _ => exact H2.no hN8.mod
theorem sem_recs3 {w : World} {K : Value → World → Prop} {h1 h2 h3 : Hd} {r1 r2 r3 : Rc} (H1 : HdAt w h1 r1) (H2 : HdAt w h2 r2) (H3 : HdAt w h3 r3)
    (hK : ∀ (x : Slc) w', Mod NoB w w' → RecsAt w'.heap.size w' x [r1, r2, r3] → K (.slice x.a x.len x.cap) w') : semK prog (Instr.buildSlice 22 3 #[(0, h1.val), (1, h2.val), (2, h3.val)]) w K := by
  obtain ⟨ir, hr1, hr2, hr3, hr4⟩ := iRec
  refine sem_lit [h1.val, h2.val, h3.val] (l := hcells [h1, h2, h3]) uRecs hr1 hr2 hr3 (by omega) rfl (by omega) (by omega) rfl (by intro v hv; simp at hv; rcases hv with rfl | rfl | rfl <;> rfl) (by simp [hcells, flatC, Value.cells, Hd.val]) fun lb w8 hN8 hb8 => hK ⟨some ⟨lb, 0, none⟩, 3, 3⟩ w8 hN8.mod (recsAt_lit hb8 rfl rfl fun i a b => ?_)
  match i, a with
  | 0, _ => exact H1.no hN8.mod
  | 1, _ => exact H2.no hN8.mod
  | 2, _ => exact H3.no hN8.mod
theorem RecsAt.r {B : Nat} {w : World} {s : Slc} {ls : List Rc} (h : RecsAt B w s ls) : RecsR w s ls := by
  obtain ⟨hs, h1, h2, h3, h4⟩ := h
  exact ⟨hs, h1, h3, fun i a b => (h4 i a b).1⟩
theorem LeavesR.len {w : World} {o : Slc} {L : Lv} (h : LeavesR w o L) : L.length = o.len := by
  obtain ⟨es, g1, g2, _⟩ := h
  have := rd_lenC lcell_len (by omega) g1; omega
section
variable {w : World}
theorem c_awake (hg : GlobS w) : Calls prog 7 #[] w (Ret fun v w' => v = .bool true ∧ Mod NoB w w') := by
  refine call7 ?_
  unfold sh7
  obtain ⟨ir, hr1, hr2, hr3, hr4⟩ := iRec
  obtain ⟨id, hd1, hd2, hd3, hd4⟩ := dotI
  refine callK_ret (c_lwrite (key := [107]) (cl := 1) (sq := 1) (ctx := ⟨none, 0, 0⟩) (cx := []) hg (rd_nil _ _) (by simp) (by simp) (by simp) (by rfl)) ?_
  rintro v w1 ⟨ha, sa, rfl, Ha, la, na, hm1⟩
  refine ⟨ha.a, ha.b, ha.c, ha.d, ha.e, ha.f, ha.g, rfl, ?_⟩
  refine callK_ret (c_lwrite (key := [107]) (cl := 2) (sq := 1) (ctx := ⟨none, 0, 0⟩) (cx := []) (hg.no hm1) (rd_nil _ _) (by simp) (by simp) (by simp) (by rfl)) ?_
  rintro v w2 ⟨hb, sb, rfl, Hb, lb, nb, hm2⟩
  refine ⟨hb.a, hb.b, hb.c, hb.d, hb.e, hb.f, hb.g, rfl, ?_⟩
  refine sem_alloc (l := Hd.cells ⟨[], 0, 0, ⟨none, 0, 0⟩, false, ⟨none, 0, 0⟩, ⟨none, 0, 0⟩⟩) hr1 hr2 rfl fun p w3 hN3 hp3 => ⟨_, rfl, ?_⟩
  refine sem_alloc (l := Hd.cells ⟨[], 0, 0, ⟨none, 0, 0⟩, false, ⟨none, 0, 0⟩, ⟨none, 0, 0⟩⟩) hr1 hr2 rfl fun q w4 hN4 hq4 => ⟨_, rfl, ?_⟩
  have e3 := hN3.at_; have e4 := hN4.at_; have s3 := hN3.size; have s4 := hN4.size
  refine semU_hd (h := ha) (by kernel_rfl) (by kernel_rfl) (hp3.no hN4.mod) rfl fun w5 ht5 hp5 => ?_
  refine semU_hd (h := hb) (by kernel_rfl) (by kernel_rfl) (hq4.mod ht5.mod (by omega)) rfl fun w6 ht6 hq6 => ?_
  have hp6 := hp5.mod ht6.mod (by omega)
  have hm26 : Mod NoB w2 w6 := (((hN3.mod.tr hN4.mod).fresh ht5.mod fun z e => by omega)).fresh ht6.mod fun z e => by omega
  refine sem_lit [.agg #[.int .i64 1, .int .i64 1]] (l := dts [(1, 1)]) uDots hd1 hd2 hd3 (by omega) rfl (by omega) (by omega) rfl (by intro v hv; simp at hv; subst hv; rfl) rfl fun d w7 hN7 hd7 => ⟨⟨some ⟨d, 0, none⟩, 1, 1⟩, rfl, ?_⟩
  have hm7 := ((hm1.tr hm2).tr hm26).tr hN7.mod
  refine callK_ret (c_lwrite (key := [107]) (cl := 3) (sq := 1) (ctx := ⟨some ⟨d, 0, none⟩, 1, 1⟩) (cx := [(1, 1)]) (hg.no hm7) (own_whole (n := 1) (k := 2) hd7 (by simp [dts])).rd (fun z hz => by rw [Slc.blk_mk, if_neg (by omega)] at hz; cases hz; exact hd7.lt) (by simp) (by simp) (by rfl)) ?_
  rintro v w8 ⟨hc, sc, rfl, Hc, lc, nc, hm8⟩
  refine ⟨hc.a, hc.b, hc.c, hc.d, hc.e, hc.f, hc.g, rfl, ?_⟩
  refine sem_alloc (l := Hd.cells ⟨[], 0, 0, ⟨none, 0, 0⟩, false, ⟨none, 0, 0⟩, ⟨none, 0, 0⟩⟩) hr1 hr2 rfl fun r w9 hN9 hr9 => ⟨_, rfl, ?_⟩
  have e9 := hN9.at_
  refine semU_hd (h := hc) (by kernel_rfl) (by kernel_rfl) hr9 rfl fun w10 ht10 hr10 => ?_
  have hm810 : Mod NoB w8 w10 := hN9.mod.fresh ht10.mod fun z e => by omega
  have hm610 : Mod NoB w6 w10 := hN7.mod.tr (hm8.tr hm810)
  have hMd : Mod NoB w w10.drew := (hm7.tr (hm8.tr hm810)).tr (Mod.drew NoB w10)
  have hpd := (hp6.no hm610).drew
  have hqd := (hq6.no hm610).drew
  have hrd := hr10.drew
  have HA : HdAt w10.drew ha (exA sa) := Ha.no (hm2.tr (hm26.tr (hm610.tr (Mod.drew NoB w10))))
  have HB : HdAt w10.drew hb (exB sb) := Hb.no (hm26.tr (hm610.tr (Mod.drew NoB w10)))
  have HC : HdAt w10.drew hc (exC sc) := Hc.no (hm810.tr (Mod.drew NoB w10))
  have gr : ∀ {w1 : World} {x1 : Slc} {K : Slc → World → Prop} {pan : List PanicEntry → World → Prop}, RecsAt w1.heap.size w1 x1 [exC sc, exA sa, exB sb] → (∀ x2 w2, Mod NoB w1 w2 → RecsR w2 x2 [exB sb, exC sc] → K x2 w2) →
      callK prog 11 [.slice x1.a x1.len x1.cap] w1 pan fun v w' => ∃ x2 : Slc, v = .slice x2.a x2.len x2.cap ∧ K x2 w' := fun hR hK =>
    callK_ret (c_Greatest hR (by simp)) fun v w' ⟨o, L, hv, hL, hQ, hm⟩ => ⟨o, hv, hK o w' hm (by
      have := ex_leaves la lb lc (fun r => by simp only [List.mem_cons, List.not_mem_nil, or_false]; exact ⟨fun h => by rcases h with h | h | h; exact .inr (.inr h); exact .inl h; exact .inr (.inl h), fun h => by rcases h with h | h | h; exact .inr (.inl h); exact .inr (.inr h); exact .inl h⟩) hL
      subst this
      simpa using hQ.r)⟩
  refine ⟨Mod NoB w10.drew, Mod.refl _ _, hc.a, hc.b, hc.c, hc.d, hc.e, hc.f, hc.g, fun w' hm => rdH (hrd.no hm), ha.a, ha.b, ha.c, ha.d, ha.e, ha.f, ha.g, fun w' hm => rdH (hpd.no hm), hb.a, hb.b, hb.c, hb.d, hb.e, hb.f, hb.g, fun w' hm => rdH (hqd.no hm), hb.a, hb.b, hb.c, hb.d, hb.e, hb.f, hb.g, fun w' hm => rdH (hqd.no hm), hc.a, hc.b, hc.c, hc.d, hc.e, hc.f, hc.g, fun w' hm => rdH (hrd.no hm), ?_, ?_, trivial⟩
  · refine sem_recs3 (h1 := hc) (h2 := ha) (h3 := hb) HC HA HB fun x1 w11 hm11 hR1 => ⟨x1, rfl, hm11, ?_, ?_, trivial⟩
    · refine gr hR1 fun x2 w12 hm12 hR2 => ⟨hm11.tr hm12, ?_, trivial⟩
      refine sem_recs2 (h1 := hb) (h2 := hc) (HB.no (hm11.tr hm12)) (HC.no (hm11.tr hm12)) fun x3 w13 hm13 hR3 => ⟨x3, rfl, (hm11.tr hm12).tr hm13, ?_, trivial⟩
      have hR2 := hR2.no hm13
      have hR3 := hR3.r
      have hmS := (hm11.tr hm12).tr hm13
      clear hm11 hm12 hm13 hR1
      refine callK_ret (c_sameRecs hR2 hR3 (by simp)) ?_
      rintro v w14 ⟨rfl, hm14⟩
      have hm14 := hmS.tr hm14
      refine ⟨_, rfl, hm14, condK_i (fun _ => ?_) fun h => by simp at h⟩
      refine ⟨ha.a, ha.b, ha.c, ha.d, ha.e, ha.f, ha.g, fun w' hm => rdH (hpd.no hm), hb.a, hb.b, hb.c, hb.d, hb.e, hb.f, hb.g, fun w' hm => rdH (hqd.no hm), hc.a, hc.b, hc.c, hc.d, hc.e, hc.f, hc.g, fun w' hm => rdH (hrd.no hm), ?_, trivial⟩
      refine sem_recs3 (h1 := ha) (h2 := hb) (h3 := hc) (HA.no hm14) (HB.no hm14) (HC.no hm14) fun x5 w15 hm15 hR5 => ⟨x5, rfl, hm14.tr hm15, ?_, trivial⟩
      refine callK_ret (c_Leaves hR5 (by simp)) ?_
      rintro v w16 ⟨x6, L, rfl, hL, hQ, hm16⟩
      have hm16 := (hm14.tr hm15).tr hm16
      have := ex_leaves la lb lc (fun r => by simp only [List.mem_cons, List.not_mem_nil, or_false]) hL
      subst this
      have h6 := hQ.r.len
      refine ⟨x6, rfl, hm16, congrArg Value.bool ?_, hMd.tr hm16⟩
      have h6 : x6.len = 1 := h6.symm
      rw [h6]; rfl
    · refine sem_recs2 (h1 := hb) (h2 := hc) (HB.no hm11) (HC.no hm11) fun x3 w12 hm12 hR3 => ⟨x3, rfl, hm11.tr hm12, ?_, trivial⟩
      refine gr ((hR1.mod (hm12.mono fun _ _ h => h.elim)).le hm12.size) fun x2 w13 hm13 hR2 => ⟨(hm11.tr hm12).tr hm13, ?_, trivial⟩
      have hR3 := hR3.r.no hm13
      have hmS := (hm11.tr hm12).tr hm13
      clear hm11 hm12 hm13 hR1
      refine callK_ret (c_sameRecs hR2 hR3 (by simp)) ?_
      rintro v w14 ⟨rfl, hm14⟩
      have hm14 := hmS.tr hm14
      refine ⟨_, rfl, hm14, condK_i (fun _ => ?_) fun h => by simp at h⟩
      refine ⟨ha.a, ha.b, ha.c, ha.d, ha.e, ha.f, ha.g, fun w' hm => rdH (hpd.no hm), hb.a, hb.b, hb.c, hb.d, hb.e, hb.f, hb.g, fun w' hm => rdH (hqd.no hm), hc.a, hc.b, hc.c, hc.d, hc.e, hc.f, hc.g, fun w' hm => rdH (hrd.no hm), ?_, trivial⟩
      refine sem_recs3 (h1 := ha) (h2 := hb) (h3 := hc) (HA.no hm14) (HB.no hm14) (HC.no hm14) fun x5 w15 hm15 hR5 => ⟨x5, rfl, hm14.tr hm15, ?_, trivial⟩
      refine callK_ret (c_Leaves hR5 (by simp)) ?_
      rintro v w16 ⟨x6, L, rfl, hL, hQ, hm16⟩
      have hm16 := (hm14.tr hm15).tr hm16
      have := ex_leaves la lb lc (fun r => by simp only [List.mem_cons, List.not_mem_nil, or_false]) hL
      subst this
      have h6 := hQ.r.len
      refine ⟨x6, rfl, hm16, congrArg Value.bool ?_, hMd.tr hm16⟩
      have h6 : x6.len = 1 := h6.symm
      rw [h6]; rfl
  · refine sem_recs2 (h1 := hb) (h2 := hc) HB HC fun x3 w11 hm11 hR3 => ⟨x3, rfl, hm11, ?_, trivial⟩
    refine sem_recs3 (h1 := hc) (h2 := ha) (h3 := hb) (HC.no hm11) (HA.no hm11) (HB.no hm11) fun x1 w12 hm12 hR1 => ⟨x1, rfl, hm11.tr hm12, ?_, trivial⟩
    refine gr hR1 fun x2 w13 hm13 hR2 => ⟨(hm11.tr hm12).tr hm13, ?_, trivial⟩
    have hR3 := (hR3.r.no hm12).no hm13
    have hmS := (hm11.tr hm12).tr hm13
    clear hm11 hm12 hm13 hR1
    refine callK_ret (c_sameRecs hR2 hR3 (by simp)) ?_
    rintro v w14 ⟨rfl, hm14⟩
    have hm14 := hmS.tr hm14
    refine ⟨_, rfl, hm14, condK_i (fun _ => ?_) fun h => by simp at h⟩
    refine ⟨ha.a, ha.b, ha.c, ha.d, ha.e, ha.f, ha.g, fun w' hm => rdH (hpd.no hm), hb.a, hb.b, hb.c, hb.d, hb.e, hb.f, hb.g, fun w' hm => rdH (hqd.no hm), hc.a, hc.b, hc.c, hc.d, hc.e, hc.f, hc.g, fun w' hm => rdH (hrd.no hm), ?_, trivial⟩
    refine sem_recs3 (h1 := ha) (h2 := hb) (h3 := hc) (HA.no hm14) (HB.no hm14) (HC.no hm14) fun x5 w15 hm15 hR5 => ⟨x5, rfl, hm14.tr hm15, ?_, trivial⟩
    refine callK_ret (c_Leaves hR5 (by simp)) ?_
    rintro v w16 ⟨x6, L, rfl, hL, hQ, hm16⟩
    have hm16 := (hm14.tr hm15).tr hm16
    have := ex_leaves la lb lc (fun r => by simp only [List.mem_cons, List.not_mem_nil, or_false]) hL
    subst this
    have h6 := hQ.r.len
    refine ⟨x6, rfl, hm16, congrArg Value.bool ?_, hMd.tr hm16⟩
    have h6 : x6.len = 1 := h6.symm
    rw [h6]; rfl
end
def RowN (w0 w : World) (x : Slc) (rs : List Rc) : Prop :=
  ∃ hs : List Hd, Sh.Own w x 7 (hcells hs) ∧ FB w0 x ∧ hs.length = rs.length ∧ (∀ i (h : i < hs.length) (h' : i < rs.length), HdAt w0 hs[i] rs[i]) ∧ Mod NoB w0 w
theorem RowN.nil {w0 w : World} (h : Mod NoB w0 w) : RowN w0 w ⟨none, 0, 0⟩ [] := ⟨[], own_nil _ 7, FB.nil _, rfl, fun i h => by simp at h, h⟩
theorem RowN.no {w0 w w' : World} {x : Slc} {rs : List Rc} (h : RowN w0 w x rs) (hm : Mod NoB w w') : RowN w0 w' x rs := by
  obtain ⟨hs, h1, h2, h3, h4, h5⟩ := h
  exact ⟨hs, h1.no hm, h2, h3, h4, h5.tr hm⟩
theorem RowN.at {w0 w : World} {x : Slc} {rs : List Rc} (h : RowN w0 w x rs) : RecsAt w.heap.size w x rs := by
  obtain ⟨hs, h1, h2, h3, h4, h5⟩ := h
  exact ⟨hs, h1.rd, fun z hz => h1.lt hz, h3, fun i a b => ⟨(h4 i a b).no h5, fun z hz => Nat.lt_of_lt_of_le ((h4 i a b).lt z hz) h5.size⟩⟩
theorem RowN.m {w0 w : World} {x : Slc} {rs : List Rc} (h : RowN w0 w x rs) : Mod NoB w0 w := by
  obtain ⟨hs, h1, h2, h3, h4, h5⟩ := h
  exact h5
theorem push_rec {w0 w : World} {x : Slc} {rs : List Rc} {h : Hd} {r : Rc} {K : Slc → World → Prop} (hR : RowN w0 w x rs) (H : HdAt w0 h r) (hn : rs.length ≤ 100000) (hK : ∀ x' w', RowN w0 w' x' (rs ++ [r]) → K x' w') :
    semK prog (Instr.buildSlice 22 1 #[(0, h.val)]) w fun v w' => ∃ x6 : Slc, v = .slice x6.a x6.len x6.cap ∧ semK prog (Builtin.append_ #[22, 22] 22 #[.slice x.a x.len x.cap, .slice x6.a x6.len x6.cap]) w' fun v4 w8 => ∃ x7 : Slc, v4 = .slice x7.a x7.len x7.cap ∧ K x7 w8 := by
  obtain ⟨ir, hr1, hr2, hr3, hr4⟩ := iRec
  obtain ⟨hs, h1, h2, h3, h4, h5⟩ := hR
  have hxl := rd_lenC Hd.len (by omega) h1.rd
  refine sem_lit [h.val] (l := hcells [h]) uRecs hr1 hr2 hr3 (by omega) rfl (by omega) (by omega) rfl (by intro v hv; simp at hv; subst hv; rfl) (by simp [hcells, flatC, Value.cells, Hd.val]) fun lb w8 hN8 hb8 => ⟨⟨some ⟨lb, 0, none⟩, 1, 1⟩, rfl, ?_⟩
  have hlit : SlRd w8 ⟨some ⟨lb, 0, none⟩, 1, 1⟩ 7 (hcells [h]) := (own_whole (n := 1) (k := 7) hb8 (by rw [hcells, flatC_len Hd.len]; rfl)).rd
  refine sem_append uRecs hr1 hr2 hr3 rfl hr4 (h1.no hN8.mod) hlit (flatC_one Hd.one _) (by simp only []; omega) (by simp only []; omega) fun x' w9 ho9 hlen hblk hm9 => ⟨x', rfl, hK x' w9 ⟨hs ++ [h], by rw [hcells, flatC_app]; exact ho9, h2.step (Nat.le_trans h5.size hN8.mod.size) hblk, by simp [h3], fun i a b => ?_, h2.mod (h5.tr hN8.mod) hm9⟩⟩
  rcases Nat.lt_or_ge i hs.length with hi | hi
  · rw [List.getElem_append_left hi, List.getElem_append_left (by omega)]; exact h4 i hi (by omega)
  · have hi' : i = hs.length := by simp at a; omega
    subst hi'
    rw [List.getElem_append_right (by omega), List.getElem_append_right (by omega)]
    simpa using H
end Go.Proofs.YthaefcgpbccmbaaGreatDoor
end
section
namespace Go.Proofs.YthaefcgpbccmbaaGreatDoor
open Go Go.Sh
open Go.Proofs.Tryz
theorem exists_sorted (l : List Rc) : ∃ l' : List Rc, l'.Perm l ∧ l'.Pairwise (fun a b => ¬ ltS b a) := by
  classical
  refine ⟨l.mergeSort (fun a b => decide (¬ ltS b a)), List.mergeSort_perm _ _, ?_⟩
  have := List.pairwise_mergeSort (le := fun a b : Rc => decide (¬ ltS b a)) (fun a b c h1 h2 => by
    simp only [decide_eq_true_eq] at *
    exact ltS_ntr h2 h1) (fun a b => by
    simp only [Bool.or_eq_true, decide_eq_true_eq]
    rcases Classical.em (ltS b a) with h | h
    · exact .inr fun h' => ltS_irr _ (ltS_tr h h')
    · exact .inl h) l
  exact this.imp fun h => by simpa using h
theorem exists_comp {l : List Rc} (hr : ∀ r ∈ l, r.right = true) : ∃ c, IsComp l c := by
  obtain ⟨l', h1, h2⟩ := exists_sorted l
  exact ⟨_, comp_mem (cpt_isComp h2 fun r h => hr r (h1.mem_iff.1 h)) fun r => h1.mem_iff⟩
structure Tame (l : List Rc) : Prop where
  same : ∀ a ∈ l, ∀ b ∈ l, a.key = b.key → a.cl = b.cl → a.sq = b.sq → a = b
  asym : ∀ a ∈ l, ∀ b ∈ l, a.over b = true → b.over a = false
  trans : ∀ a ∈ l, ∀ b ∈ l, ∀ c ∈ l, a.over b = true → b.over c = true → a.over c = true
theorem Tame.sub {l m : List Rc} (h : Tame l) (hs : ∀ r ∈ m, r ∈ l) : Tame m :=
  ⟨fun a ha b hb => h.same a (hs a ha) b (hs b hb), fun a ha b hb => h.asym a (hs a ha) b (hs b hb), fun a ha b hb c hc => h.trans a (hs a ha) b (hs b hb) c (hs c hc)⟩
theorem Tame.irr {l : List Rc} (h : Tame l) {a : Rc} (ha : a ∈ l) : a.over a = false := by
  cases e : a.over a with
  | false => rfl
  | true => have := h.asym a ha a ha e; rw [e] at this; cases this
theorem Tame.max {l : List Rc} (h : Tame l) : ∀ (n : Nat) {y : Rc}, y ∈ l → (l.filter fun z => z.over y).length ≤ n → ∃ z ∈ l, (z = y ∨ z.over y = true) ∧ ∀ x ∈ l, x.over z = false
  | 0, y, hy, hn => ⟨y, hy, .inl rfl, fun x hx => by
    cases e : x.over y with
    | false => rfl
    | true =>
      have : x ∈ l.filter fun z => z.over y := List.mem_filter.2 ⟨hx, e⟩
      rw [List.eq_nil_of_length_eq_zero (by omega : (l.filter fun z => z.over y).length = 0)] at this
      cases this⟩
  | n + 1, y, hy, hn => by
    by_cases hm : ∀ x ∈ l, x.over y = false
    · exact ⟨y, hy, .inl rfl, hm⟩
    · obtain ⟨w, hw, hwy⟩ : ∃ w ∈ l, w.over y = true := by
        apply Classical.byContradiction
        intro hn
        refine hm fun x hx => ?_
        cases e : x.over y with
        | false => rfl
        | true => exact absurd ⟨x, hx, e⟩ hn
      have hlt : (l.filter fun z => z.over w).length < (l.filter fun z => z.over y).length := by
        have e : (l.filter fun z => z.over w) = (l.filter fun z => z.over y).filter fun z => z.over w := by
          rw [List.filter_filter]
          apply List.filter_congr
          intro z hz
          cases e : z.over w with
          | false => rfl
          | true => simp [h.trans z hz w hw y hy e hwy]
        rw [e]
        refine List.length_filter_lt_length_iff_exists.2 ⟨w, List.mem_filter.2 ⟨hw, hwy⟩, ?_⟩
        simp [h.irr hw]
      obtain ⟨z, hz, h1, h2⟩ := h.max n hw (by omega)
      refine ⟨z, hz, .inr ?_, h2⟩
      rcases h1 with rfl | h1
      · exact hwy
      · exact h.trans z hz w hw y hy h1 hwy
theorem Tame.max' {l : List Rc} (h : Tame l) {y : Rc} (hy : y ∈ l) : ∃ z ∈ l, (z = y ∨ z.over y = true) ∧ ∀ x ∈ l, x.over z = false := h.max _ hy (Nat.le_refl _)
structure IsMax (X s : List Rc) : Prop where
  pw : s.Pairwise dotLt
  mem : ∀ r, r ∈ s ↔ r ∈ X ∧ ∀ y ∈ X, y.over r = false
theorem IsMax.uniq {X Y s t : List Rc} (h : IsMax X s) (h' : IsMax Y t) (hs : ∀ r, (r ∈ X ∧ ∀ y ∈ X, y.over r = false) ↔ (r ∈ Y ∧ ∀ y ∈ Y, y.over r = false)) : s = t :=
  sorted_ext dotLt_irr dotLt_tr h.pw h'.pw fun x => by rw [h.mem, h'.mem, hs]
theorem joinOf_max {X c : List Rc} (hX : Tame X) (hk : ∀ a ∈ X, ∀ b ∈ X, a.key = b.key) (hc : IsComp X c) : IsMax X (joinOf c) := by
  have hm : ∀ r, r ∈ c ↔ r ∈ X := fun r => by
    rw [hc.mem]
    refine ⟨fun h => h.1, fun h => ⟨h, fun r' hr' h1 h2 => ?_⟩⟩
    rw [hX.same r' hr' r h (hk r' hr' r h) h1 h2]
    exact List.lt_irrefl _
  refine ⟨hc.pw.sublist List.filter_sublist, fun r => ?_⟩
  simp only [joinOf, List.mem_filter, hm, Bool.not_eq_true', List.any_eq_false]
  refine and_congr_right fun hr => ⟨fun h y hy => ?_, fun h y hy => by simp [h y hy]⟩
  have := h y hy
  cases e : y.over r with
  | false => rfl
  | true =>
    by_cases hd : r.cl = y.cl ∧ r.sq = y.sq
    · have := hX.same r hr y hy (hk r hr y hy) hd.1 hd.2
      subst this
      rw [hX.irr hr] at e; cases e
    · simp [e, hd] at this
theorem isJoin_max {X s : List Rc} (hX : Tame X) (hk : ∀ a ∈ X, ∀ b ∈ X, a.key = b.key) (hr : ∀ r ∈ X, r.right = true) : IsJoin X s ↔ IsMax X s := by
  constructor
  · rintro ⟨c, hc, rfl⟩
    exact joinOf_max hX hk hc
  · intro h
    obtain ⟨c, hc⟩ := exists_comp hr
    exact ⟨c, hc, h.uniq (joinOf_max hX hk hc) fun r => Iff.rfl⟩
def rights (l : List Rc) : List Rc := l.filter fun r => r.right
theorem rightOf_mem {l : List Rc} {k : List UInt8} {r : Rc} : r ∈ rightOf l k ↔ r ∈ rights l ∧ r.key = k := by
  simp [rightOf, rights, and_assoc]
theorem tame_of {l : List Rc} (h : Tame (rights l)) (k : List UInt8) : Tame (rightOf l k) := h.sub fun r hr => (rightOf_mem.1 hr).1
theorem rightOf_key {l : List Rc} {k : List UInt8} : ∀ a ∈ rightOf l k, ∀ b ∈ rightOf l k, a.key = b.key := fun a ha b hb => by rw [(rightOf_mem.1 ha).2, (rightOf_mem.1 hb).2]
theorem rightOf_right {l : List Rc} {k : List UInt8} : ∀ a ∈ rightOf l k, a.right = true := fun a ha => (List.mem_filter.1 (rightOf_mem.1 ha).1).2
theorem over_key {a b : Rc} (h : a.over b = true) : a.key = b.key := by
  simp only [Rc.over, Bool.and_eq_true, decide_eq_true_eq] at h; exact h.1.1.1
theorem greatest_mem {l : List Rc} {L : List (List UInt8 × List Rc)} (ht : Tame (rights l)) (hL : IsLeaves l L) (r : Rc) : r ∈ L.flatMap (·.2) ↔ r ∈ rights l ∧ ∀ y ∈ rights l, y.over r = false := by
  rw [List.mem_flatMap]
  constructor
  · rintro ⟨⟨k, s⟩, he, hr⟩
    obtain ⟨h1, h2⟩ := (hL.mem k s).1 he
    have h3 := (isJoin_max (tame_of ht k) rightOf_key rightOf_right).1 h2
    obtain ⟨h4, h5⟩ := (h3.mem r).1 hr
    obtain ⟨h6, h7⟩ := rightOf_mem.1 h4
    refine ⟨h6, fun y hy => ?_⟩
    cases e : y.over r with
    | false => rfl
    | true =>
      have := h5 y (rightOf_mem.2 ⟨hy, (over_key e).trans h7⟩)
      rw [e] at this; cases this
  · rintro ⟨h1, h2⟩
    obtain ⟨c, hc⟩ := exists_comp (rightOf_right (l := l) (k := r.key))
    have hm := joinOf_max (tame_of ht r.key) rightOf_key hc
    have hr : r ∈ joinOf c := (hm.mem r).2 ⟨rightOf_mem.2 ⟨h1, rfl⟩, fun y hy => h2 y (rightOf_mem.1 hy).1⟩
    exact ⟨(r.key, joinOf c), (hL.mem _ _).2 ⟨(fun e => by rw [e] at hr; cases hr), c, hc, rfl⟩, hr⟩
theorem rights_app (a b : List Rc) : rights (a ++ b) = rights a ++ rights b := by simp [rights]
theorem steps {l1 l2 : List Rc} {L L1 L2 L' : List (List UInt8 × List Rc)} (ht : Tame (rights (l1 ++ l2))) (h : IsLeaves (l1 ++ l2) L) (h1 : IsLeaves l1 L1) (h2 : IsLeaves l2 L2) (h' : IsLeaves (L1.flatMap (·.2) ++ L2.flatMap (·.2)) L') : L' = L := by
  have ht1 : Tame (rights l1) := ht.sub fun r hr => by rw [rights_app]; exact List.mem_append_left _ hr
  have ht2 : Tame (rights l2) := ht.sub fun r hr => by rw [rights_app]; exact List.mem_append_right _ hr
  have hin : ∀ r, r ∈ rights (L1.flatMap (·.2) ++ L2.flatMap (·.2)) ↔ (r ∈ rights l1 ∧ ∀ y ∈ rights l1, y.over r = false) ∨ (r ∈ rights l2 ∧ ∀ y ∈ rights l2, y.over r = false) := fun r => by
    rw [rights_app, List.mem_append]
    simp only [rights, List.mem_filter]
    rw [greatest_mem ht1 h1, greatest_mem ht2 h2]
    simp only [rights, List.mem_filter]
    constructor
    · rintro (⟨h, _⟩ | ⟨h, _⟩)
      · exact .inl h
      · exact .inr h
    · rintro (h | h)
      · exact .inl ⟨h, h.1.2⟩
      · exact .inr ⟨h, h.1.2⟩
  have hsub : ∀ r ∈ rights (L1.flatMap (·.2) ++ L2.flatMap (·.2)), r ∈ rights (l1 ++ l2) := fun r hr => by
    rw [rights_app]
    rcases (hin r).1 hr with h | h
    · exact List.mem_append_left _ h.1
    · exact List.mem_append_right _ h.1
  have ht' : Tame (rights (L1.flatMap (·.2) ++ L2.flatMap (·.2))) := ht.sub hsub
  have hmx : ∀ k r, (r ∈ rightOf (L1.flatMap (·.2) ++ L2.flatMap (·.2)) k ∧ ∀ y ∈ rightOf (L1.flatMap (·.2) ++ L2.flatMap (·.2)) k, y.over r = false) ↔ (r ∈ rightOf (l1 ++ l2) k ∧ ∀ y ∈ rightOf (l1 ++ l2) k, y.over r = false) := by
    intro k r
    constructor
    · rintro ⟨a, b⟩
      obtain ⟨a1, a2⟩ := rightOf_mem.1 a
      refine ⟨rightOf_mem.2 ⟨hsub r a1, a2⟩, fun y hy => ?_⟩
      cases e : y.over r with
      | false => rfl
      | true =>
        obtain ⟨y1, y2⟩ := rightOf_mem.1 hy
        obtain ⟨z, z1, z2, z3⟩ := ht.max' y1
        have hzr : z.over r = true := by
          rcases z2 with rfl | z2
          · exact e
          · exact ht.trans z z1 y y1 r (hsub r a1) z2 e
        have hz : z ∈ rights (L1.flatMap (·.2) ++ L2.flatMap (·.2)) := by
          rw [hin]
          have z1' := z1
          rw [rights_app, List.mem_append] at z1'
          rcases z1' with g | g
          · exact .inl ⟨g, fun y hy => z3 y (by rw [rights_app]; exact List.mem_append_left _ hy)⟩
          · exact .inr ⟨g, fun y hy => z3 y (by rw [rights_app]; exact List.mem_append_right _ hy)⟩
        have := b z (rightOf_mem.2 ⟨hz, (over_key hzr).trans a2⟩)
        rw [hzr] at this; cases this
    · rintro ⟨a, b⟩
      obtain ⟨a1, a2⟩ := rightOf_mem.1 a
      have hall : ∀ y ∈ rights (l1 ++ l2), y.over r = false := fun y hy => by
        cases e : y.over r with
        | false => rfl
        | true =>
          have := b y (rightOf_mem.2 ⟨hy, (over_key e).trans a2⟩)
          rw [e] at this; cases this
      refine ⟨rightOf_mem.2 ⟨?_, a2⟩, fun y hy => hall y (hsub y (rightOf_mem.1 hy).1)⟩
      rw [hin]
      have a1' := a1
      rw [rights_app, List.mem_append] at a1'
      rcases a1' with g | g
      · exact .inl ⟨g, fun y hy => hall y (by rw [rights_app]; exact List.mem_append_left _ hy)⟩
      · exact .inr ⟨g, fun y hy => hall y (by rw [rights_app]; exact List.mem_append_right _ hy)⟩
  refine sorted_ext (lt := fun a b => a.1 < b.1) (fun x hx => List.lt_irrefl _ hx) (fun x y z h1 h2 => List.lt_trans h1 h2) h'.pw h.pw fun ⟨k, s⟩ => ?_
  rw [h'.mem, h.mem, isJoin_max (tame_of ht' k) rightOf_key rightOf_right, isJoin_max (tame_of ht k) rightOf_key rightOf_right]
  refine and_congr_right fun _ => ⟨fun g => ⟨g.pw, fun r => by rw [g.mem, hmx]⟩, fun g => ⟨g.pw, fun r => by rw [g.mem, hmx]⟩⟩
theorem covered {l : List Rc} {L : List (List UInt8 × List Rc)} (ht : Tame (rights l)) (h : IsLeaves l L) {r : Rc} (hr : r ∈ rights l) : ∃ z ∈ L.flatMap (·.2), z = r ∨ z.over r = true := by
  obtain ⟨z, h1, h2, h3⟩ := ht.max' hr
  exact ⟨z, (greatest_mem ht h z).2 ⟨h1, h3⟩, h2⟩
def sh5 (l : Slc) (cut : Int) (w : World) (R : RW) : Prop :=
  callK prog 7 [] w (panR R) fun v w1 => ∃ x : Bool, v = (.bool x) ∧ condK (!x) (R (.returned (.bool false)) w1) (∃ j : List TV → World → Prop, (callK prog 8 [zS l] w1 (panR R) fun v1 w2 => ∃ x1 : Bool, v1 = (.bool x1) ∧ condK (!x1) (j [.b true] w2) (callK prog 21 [zS l] w2 (panR R) fun v2 w3 => ∃ x2 : Slc, v2 = (zS x2) ∧ callK prog 20 [zS x2] w3 (panR R) fun v3 w4 => ∃ x3 : Bool, v3 = (.bool x3) ∧ j [.b (!x3)] w4)) ∧ (∀ x4 : Bool, ∀ w5 : World, j [.b x4] w5 → condK x4 (R (.returned (.bool true)) w5) (callK prog 19 [.int .i64 cut, .int .i64 (IntKind.i64.wrap ((l.len : Int) + (1 : Int)))] w5 (panR R) fun v4 w6 => ∃ x5 : Int, v4 = (.int .i64 x5) ∧ callK prog 11 [zS l] w6 (panR R) fun v5 w7 => ∃ x6 : Slc, v5 = (zS x6) ∧ ((0 ≤ x5 ∧ x5 ≤ (l.cap : Nat)) ∧ ((0 ≤ x5 ∧ x5 ≤ (l.len : Nat)) ∧ ((callK prog 11 [.slice (cutSl l 7 0 (x5.toNat) l.cap).a (cutSl l 7 0 (x5.toNat) l.cap).len (cutSl l 7 0 (x5.toNat) l.cap).cap] w7.drew (panR R) fun v6 w8 => ∃ x7 : Slc, v6 = (zS x7) ∧ ((callK prog 11 [.slice (cutSl l 7 (x5.toNat) l.len l.cap).a (cutSl l 7 (x5.toNat) l.len l.cap).len (cutSl l 7 (x5.toNat) l.len l.cap).cap] w8 (panR R) fun v7 w9 => ∃ x8 : Slc, v7 = (zS x8) ∧ ((semK prog (Builtin.append_ #[22, 22] 22 #[zS x7, zS x8]) w9 fun v8 w10 => ∃ x9 : Slc, v8 = (zS x9) ∧ callK prog 11 [zS x9] w10 (panR R) fun v9 w11 => ∃ x10 : Slc, v9 = (zS x10) ∧ callK prog 14 [zS x10, zS x6] w11 (panR R) fun v10 w12 => ∃ x11 : Bool, v10 = (.bool x11) ∧ condK (!x11) (R (.returned (.bool false)) w12) (callK prog 21 [zS l] w12 (panR R) fun v11 w13 => ∃ x12 : Slc, v11 = (zS x12) ∧ ∃ (inv : List TV → World → Prop) (mu : List TV → World → Nat), inv [.i .i64 (0 : Int)] w13 ∧ (∀ i : Int, ∀ w14 : World, inv [.i .i64 i] w14 → condK (decide (i < (x12.len : Int))) (∃ (inv1 : List TV → World → Prop) (mu1 : List TV → World → Nat), inv1 [.b false, .i .i64 (0 : Int)] w14 ∧ (∀ is : Bool, ∀ n : Int, ∀ w15 : World, inv1 [.b is, .i .i64 n] w15 → condK (decide (n < (x6.len : Int))) (∃ sx : World → Prop, sx w15.drew ∧ condK is ((((sx w15.drew ∧ (((sx w15.drew ∧ (inv1 [.b true, .i .i64 (IntKind.i64.wrap (n + (1 : Int)))] w15.drew ∧ mu1 [.b true, .i .i64 (IntKind.i64.wrap (n + (1 : Int)))] w15.drew < mu1 [.b is, .i .i64 n] w15))) ∧ True))) ∧ True)) (((0 ≤ n ∧ n < (x6.len : Nat)) ∧ onSome x6.a fun a => ((0 ≤ i ∧ i < (x12.len : Nat)) ∧ onSome x12.a fun a1 => ∃ xa : List UInt8, ∃ xb xc : Int, ∃ xd : Slc, ∃ xe : Bool, ∃ xf xg : Slc, (∀ w', sx w' → Rd w' (a.add (n.toNat * 7)) (yR xa xb xc xd xe xf xg)) ∧ ∃ xa1 : List UInt8, ∃ xb1 xc1 : Int, ∃ xd1 : Slc, ∃ xe1 : Bool, ∃ xf1 xg1 : Slc, (∀ w', sx w' → Rd w' (a1.add (i.toNat * 7)) (yR xa1 xb1 xc1 xd1 xe1 xf1 xg1)) ∧ ((callK prog 22 [zR xa xb xc xd xe xf xg, zR xa1 xb1 xc1 xd1 xe1 xf1 xg1] w15.drew (panR R) fun v12 w16 => ∃ x13 : Bool, v12 = (.bool x13) ∧ (sx w16 ∧ condK x13 ((((sx w16 ∧ (inv1 [.b true, .i .i64 (IntKind.i64.wrap (n + (1 : Int)))] w16 ∧ mu1 [.b true, .i .i64 (IntKind.i64.wrap (n + (1 : Int)))] w16 < mu1 [.b is, .i .i64 n] w15))) ∧ True)) (((0 ≤ n ∧ n < (x6.len : Nat)) ∧ onSome x6.a fun a2 => ((0 ≤ i ∧ i < (x12.len : Nat)) ∧ onSome x12.a fun a3 => ∃ xa2 : List UInt8, ∃ xb2 xc2 : Int, ∃ xd2 : Slc, ∃ xe2 : Bool, ∃ xf2 xg2 : Slc, (∀ w', sx w' → Rd w' (a2.add (n.toNat * 7)) (yR xa2 xb2 xc2 xd2 xe2 xf2 xg2)) ∧ ∃ xa3 : List UInt8, ∃ xb3 xc3 : Int, ∃ xd3 : Slc, ∃ xe3 : Bool, ∃ xf3 xg3 : Slc, (∀ w', sx w' → Rd w' (a3.add (i.toNat * 7)) (yR xa3 xb3 xc3 xd3 xe3 xf3 xg3)) ∧ ((callK prog 23 [zR xa2 xb2 xc2 xd2 xe2 xf2 xg2, zR xa3 xb3 xc3 xd3 xe3 xf3 xg3] w16 (panR R) fun v13 w17 => ∃ x14 : Bool, v13 = (.bool x14) ∧ (sx w17 ∧ (inv1 [.b x14, .i .i64 (IntKind.i64.wrap (n + (1 : Int)))] w17 ∧ mu1 [.b x14, .i .i64 (IntKind.i64.wrap (n + (1 : Int)))] w17 < mu1 [.b is, .i .i64 n] w15))) ∧ True)))))) ∧ True))))) (condK (!is) (R (.returned (.bool false)) w15) ((inv [.i .i64 (IntKind.i64.wrap (i + (1 : Int)))] w15 ∧ mu [.i .i64 (IntKind.i64.wrap (i + (1 : Int)))] w15 < mu [.i .i64 i] w14))))) (R (.returned (.bool true)) w14)))) ∧ True)) ∧ True)) ∧ True))))))
theorem call5 (l : Slc) (cut : Int) {w : World} {R : RW} (hden : sh5 l cut w R) : Calls prog 5 #[zS l, .int .i64 cut] w R :=
  calls_of_form (q0 .z (q0 (q0 .z (.cond (q0 .z .z) .z)) (q0 (.seq (some [(22, .b)]) .z (.cond (q0 .z .z) .z)) (q0 .z (q0 .z (q0 (.draw 0 (.take 0 (.take 1 (.take 2 (.take 4 (.take 5 (.take 6 (.all [(3, (.all [(7, (.all [(8, (.take 9 .done))]))]))])))))))) (q0 (q0 .z (.cond (q0 .z .z) .z)) (q0 .z (q0 (q0 .z (.block none (.loop [(9, (.i .i64))] (q0 (q0 .z (.cond .z .z)) (q0 (.block none (q0 .z (q0 (q0 .z (.block none (.loop [(10, .b), (11, (.i .i64))] (q0 (q0 .z (.cond .z .z)) (q0 (.block none (.draw 1 (.take 0 (.take 1 (.take 2 (.take 3 (.take 4 (.take 6 (.take 7 (.take 8 (.take 5 (.take 9 (.all [(10, (.take 11 (.take 12 (.take 13 (.take 14 (.take 15 (.take 17 (.take 18 (.take 19 (.take 16 (.take 20 (.all [(21, (.take 22 (.take 23 .done)))]))))))))))))]))))))))))))) .z))))) (q0 .z (.cond (q0 .z .z) .z))))) .z))))) (q0 .z .z)))))))))) func5 (by kernel_rfl) [.sl l, .i .i64 cut] (by kernel_rfl) (by kernel_rfl) hden
def sh20 (l : Slc) (w : World) (R : RW) : Prop :=
  ∃ (inv : List TV → World → Prop) (mu : List TV → World → Nat), inv [.i .i64 (0 : Int)] w ∧ (∀ i : Int, ∀ w1 : World, inv [.i .i64 i] w1 → condK (decide (i < (l.len : Int))) (∃ (inv1 : List TV → World → Prop) (mu1 : List TV → World → Nat), inv1 [.i .i64 (0 : Int)] w1 ∧ (∀ k : Int, ∀ w2 : World, inv1 [.i .i64 k] w2 → condK (decide (k < (l.len : Int))) (∃ j : List TV → World → Prop, (∃ sx : World → Prop, sx w2.drew ∧ ((0 ≤ i ∧ i < (l.len : Nat)) ∧ onSome l.a fun a => ((0 ≤ k ∧ k < (l.len : Nat)) ∧ onSome l.a fun a1 => ∃ xa : List UInt8, ∃ xb xc : Int, ∃ xd : Slc, ∃ xe : Bool, ∃ xf xg : Slc, (∀ w', sx w' → Rd w' (a.add (i.toNat * 7)) (yR xa xb xc xd xe xf xg)) ∧ ∃ xa1 : List UInt8, ∃ xb1 xc1 : Int, ∃ xd1 : Slc, ∃ xe1 : Bool, ∃ xf1 xg1 : Slc, (∀ w', sx w' → Rd w' (a1.add (k.toNat * 7)) (yR xa1 xb1 xc1 xd1 xe1 xf1 xg1)) ∧ ((semK prog (Instr.alloc 40 true (.tuple #[])) w2.drew fun v w3 => ∃ a2 : Option Addr, v = (.pointer a2) ∧ (sx w3 ∧ ((semK prog (Instr.alloc 40 true (.tuple #[])) w3 fun v1 w4 => ∃ b : Option Addr, v1 = (.pointer b) ∧ (sx w4 ∧ ((onSome a2 fun a3 => semU prog (storeVar 40 a3 (zR xa xb xc xd xe xf xg)) w4 fun w5 => (sx w5 ∧ ((onSome b fun a4 => semU prog (storeVar 40 a4 (zR xa1 xb1 xc1 xd1 xe1 xf1 xg1)) w5 fun w6 => j [.p a2, .p b] w6) ∧ True))) ∧ True))) ∧ True))) ∧ (semK prog (Instr.alloc 40 true (.tuple #[])) w2.drew fun v2 w7 => ∃ b1 : Option Addr, v2 = (.pointer b1) ∧ (sx w7 ∧ ((semK prog (Instr.alloc 40 true (.tuple #[])) w7 fun v3 w8 => ∃ a5 : Option Addr, v3 = (.pointer a5) ∧ (sx w8 ∧ ((onSome a5 fun a6 => semU prog (storeVar 40 a6 (zR xa xb xc xd xe xf xg)) w8 fun w9 => (sx w9 ∧ ((onSome b1 fun a7 => semU prog (storeVar 40 a7 (zR xa1 xb1 xc1 xd1 xe1 xf1 xg1)) w9 fun w10 => j [.p a5, .p b1] w10) ∧ True))) ∧ True))) ∧ True))) ∧ True)))) ∧ (∀ a8 b2 : Option Addr, ∀ w11 : World, j [.p a8, .p b2] w11 → ∃ j1 : List TV → World → Prop, (onSome a8 fun a9 => ∃ x : List UInt8, Rd w11 (a9.add 0) [.string ⟨x.toArray⟩] ∧ onSome b2 fun a10 => ∃ x1 : List UInt8, Rd w11 (a10.add 0) [.string ⟨x1.toArray⟩] ∧ condK (x == x1) (onSome a8 fun a11 => ∃ x2 : Int, Rd w11 (a11.add 1) [.int .i64 x2] ∧ onSome b2 fun a12 => ∃ x3 : Int, Rd w11 (a12.add 1) [.int .i64 x3] ∧ condK (x2 == x3) (onSome a8 fun a13 => ∃ x4 : Int, Rd w11 (a13.add 2) [.int .i64 x4] ∧ onSome b2 fun a14 => ∃ x5 : Int, Rd w11 (a14.add 2) [.int .i64 x5] ∧ condK (x4 == x5) (onSome a8 fun a15 => ∃ xa2 : List UInt8, ∃ xb2 xc2 : Int, ∃ xd2 : Slc, ∃ xe2 : Bool, ∃ xf2 xg2 : Slc, Rd w11 a15 (yR xa2 xb2 xc2 xd2 xe2 xf2 xg2) ∧ onSome b2 fun a16 => ∃ xa3 : List UInt8, ∃ xb3 xc3 : Int, ∃ xd3 : Slc, ∃ xe3 : Bool, ∃ xf3 xg3 : Slc, Rd w11 a16 (yR xa3 xb3 xc3 xd3 xe3 xf3 xg3) ∧ callK prog 22 [zR xa2 xb2 xc2 xd2 xe2 xf2 xg2, zR xa3 xb3 xc3 xd3 xe3 xf3 xg3] w11 (panR R) fun v4 w12 => ∃ x6 : Bool, v4 = (.bool x6) ∧ j1 [.b (!x6)] w12) (j1 [.b false] w11)) (j1 [.b false] w11)) (j1 [.b false] w11)) ∧ (∀ x7 : Bool, ∀ w13 : World, j1 [.b x7] w13 → condK x7 (R (.returned (.bool false)) w13) (onSome a8 fun a17 => ∃ xa4 : List UInt8, ∃ xb4 xc4 : Int, ∃ xd4 : Slc, ∃ xe4 : Bool, ∃ xf4 xg4 : Slc, Rd w13 a17 (yR xa4 xb4 xc4 xd4 xe4 xf4 xg4) ∧ onSome b2 fun a18 => ∃ xa5 : List UInt8, ∃ xb5 xc5 : Int, ∃ xd5 : Slc, ∃ xe5 : Bool, ∃ xf5 xg5 : Slc, Rd w13 a18 (yR xa5 xb5 xc5 xd5 xe5 xf5 xg5) ∧ callK prog 23 [zR xa4 xb4 xc4 xd4 xe4 xf4 xg4, zR xa5 xb5 xc5 xd5 xe5 xf5 xg5] w13 (panR R) fun v5 w14 => ∃ x8 : Bool, v5 = (.bool x8) ∧ condK (!x8) ((inv1 [.i .i64 (IntKind.i64.wrap (k + (1 : Int)))] w14 ∧ mu1 [.i .i64 (IntKind.i64.wrap (k + (1 : Int)))] w14 < mu1 [.i .i64 k] w2)) (onSome b2 fun a19 => ∃ xa6 : List UInt8, ∃ xb6 xc6 : Int, ∃ xd6 : Slc, ∃ xe6 : Bool, ∃ xf6 xg6 : Slc, Rd w14 a19 (yR xa6 xb6 xc6 xd6 xe6 xf6 xg6) ∧ onSome a8 fun a20 => ∃ xa7 : List UInt8, ∃ xb7 xc7 : Int, ∃ xd7 : Slc, ∃ xe7 : Bool, ∃ xf7 xg7 : Slc, Rd w14 a20 (yR xa7 xb7 xc7 xd7 xe7 xf7 xg7) ∧ callK prog 23 [zR xa6 xb6 xc6 xd6 xe6 xf6 xg6, zR xa7 xb7 xc7 xd7 xe7 xf7 xg7] w14 (panR R) fun v6 w15 => ∃ x9 : Bool, v6 = (.bool x9) ∧ condK x9 (R (.returned (.bool false)) w15) (∃ (inv2 : List TV → World → Prop) (mu2 : List TV → World → Nat), inv2 [.i .i64 (0 : Int)] w15 ∧ (∀ j2 : Int, ∀ w16 : World, inv2 [.i .i64 j2] w16 → condK (decide (j2 < (l.len : Int))) (∃ sx1 : World → Prop, sx1 w16.drew ∧ ((0 ≤ j2 ∧ j2 < (l.len : Nat)) ∧ onSome l.a fun a21 => onSome b2 fun a22 => ∃ xa8 : List UInt8, ∃ xb8 xc8 : Int, ∃ xd8 : Slc, ∃ xe8 : Bool, ∃ xf8 xg8 : Slc, (∀ w', sx1 w' → Rd w' a22 (yR xa8 xb8 xc8 xd8 xe8 xf8 xg8)) ∧ ∃ xa9 : List UInt8, ∃ xb9 xc9 : Int, ∃ xd9 : Slc, ∃ xe9 : Bool, ∃ xf9 xg9 : Slc, (∀ w', sx1 w' → Rd w' (a21.add (j2.toNat * 7)) (yR xa9 xb9 xc9 xd9 xe9 xf9 xg9)) ∧ ((callK prog 23 [zR xa8 xb8 xc8 xd8 xe8 xf8 xg8, zR xa9 xb9 xc9 xd9 xe9 xf9 xg9] w16.drew (panR R) fun v7 w17 => ∃ x10 : Bool, v7 = (.bool x10) ∧ (sx1 w17 ∧ condK x10 (((0 ≤ j2 ∧ j2 < (l.len : Nat)) ∧ onSome l.a fun a23 => onSome a8 fun a24 => ∃ xa10 : List UInt8, ∃ xb10 xc10 : Int, ∃ xd10 : Slc, ∃ xe10 : Bool, ∃ xf10 xg10 : Slc, (∀ w', sx1 w' → Rd w' a24 (yR xa10 xb10 xc10 xd10 xe10 xf10 xg10)) ∧ ∃ xa11 : List UInt8, ∃ xb11 xc11 : Int, ∃ xd11 : Slc, ∃ xe11 : Bool, ∃ xf11 xg11 : Slc, (∀ w', sx1 w' → Rd w' (a23.add (j2.toNat * 7)) (yR xa11 xb11 xc11 xd11 xe11 xf11 xg11)) ∧ ((callK prog 23 [zR xa10 xb10 xc10 xd10 xe10 xf10 xg10, zR xa11 xb11 xc11 xd11 xe11 xf11 xg11] w17 (panR R) fun v8 w18 => ∃ x11 : Bool, v8 = (.bool x11) ∧ (sx1 w18 ∧ condK (!x11) (R (.returned (.bool false)) w18) ((inv2 [.i .i64 (IntKind.i64.wrap (j2 + (1 : Int)))] w18 ∧ mu2 [.i .i64 (IntKind.i64.wrap (j2 + (1 : Int)))] w18 < mu2 [.i .i64 j2] w16)))) ∧ True))) ((((sx1 w17 ∧ (inv2 [.i .i64 (IntKind.i64.wrap (j2 + (1 : Int)))] w17 ∧ mu2 [.i .i64 (IntKind.i64.wrap (j2 + (1 : Int)))] w17 < mu2 [.i .i64 j2] w16))) ∧ True)))) ∧ True))) ((inv1 [.i .i64 (IntKind.i64.wrap (k + (1 : Int)))] w16 ∧ mu1 [.i .i64 (IntKind.i64.wrap (k + (1 : Int)))] w16 < mu1 [.i .i64 k] w2))))))))) ((inv [.i .i64 (IntKind.i64.wrap (i + (1 : Int)))] w2 ∧ mu [.i .i64 (IntKind.i64.wrap (i + (1 : Int)))] w2 < mu [.i .i64 i] w1)))) (R (.returned (.bool true)) w1))
theorem call20 (l : Slc) {w : World} {R : RW} (hden : sh20 l w R) : Calls prog 20 #[zS l] w R :=
  calls_of_form (q0 .z (q0 (q0 .z (.block none (.loop [(3, (.i .i64))] (q0 (q0 .z (.cond .z .z)) (q0 (.block none (q0 .z (.block none (.loop [(4, (.i .i64))] (q0 (q0 .z (.cond .z .z)) (q0 (.block none (.seq (some [(5, .p), (6, .p)]) (.draw 1 (.take 0 (.take 1 (.take 2 (.take 4 (.take 5 (.take 6 (.take 3 (.take 7 (.all [(8, (.all [(9, (.all [(10, (.all [(11, .done)]))]))])), (9, (.all [(8, (.all [(10, (.all [(11, .done)]))]))]))])))))))))) (q0 (.seq (some [(52, .b)]) .z (.cond (q0 .z .z) .z)) (q0 (q0 .z (.cond .z .z)) (q0 (q0 .z (.cond (q0 .z .z) .z)) (q0 .z (.block none (.loop [(7, (.i .i64))] (q0 (q0 .z (.cond .z .z)) (q0 (.block none (q0 (.draw 1 (.take 1 (.take 2 (.take 3 (.take 0 (.take 4 (.all [(5, (.take 6 (.take 8 (.take 9 (.take 10 (.take 7 (.take 11 (.all [(12, (.take 13 (.take 14 .done)))]))))))))]))))))) (.cond (q0 .z .z) .z))) .z)))))))))) .z)))))) .z))))) (q0 .z .z))) func20 (by kernel_rfl) [.sl l] (by kernel_rfl) (by kernel_rfl) hden
def sh21 (l : Slc) (w : World) (R : RW) : Prop :=
  ∃ (inv : List TV → World → Prop) (mu : List TV → World → Nat), inv [.sl ⟨none, 0, 0⟩, .i .i64 (0 : Int)] w ∧ (∀ out : Slc, ∀ i : Int, ∀ w1 : World, inv [.sl out, .i .i64 i] w1 → condK (decide (i < (l.len : Int))) (((0 ≤ i ∧ i < (l.len : Nat)) ∧ onSome l.a fun a => ∃ xa : List UInt8, ∃ xb xc : Int, ∃ xd : Slc, ∃ xe : Bool, ∃ xf xg : Slc, Rd w1 (a.add (i.toNat * 7)) (yR xa xb xc xd xe xf xg) ∧ callK prog 41 [zR xa xb xc xd xe xf xg] w1 (panR R) fun v w2 => ∃ x : Bool, v = (.bool x) ∧ condK x (((0 ≤ i ∧ i < (l.len : Nat)) ∧ onSome l.a fun a1 => ∃ xa1 : List UInt8, ∃ xb1 xc1 : Int, ∃ xd1 : Slc, ∃ xe1 : Bool, ∃ xf1 xg1 : Slc, Rd w2 (a1.add (i.toNat * 7)) (yR xa1 xb1 xc1 xd1 xe1 xf1 xg1) ∧ semK prog (Instr.buildSlice 22 1 #[(0, (zR xa1 xb1 xc1 xd1 xe1 xf1 xg1))]) w2 fun v1 w3 => ∃ x1 : Slc, v1 = (zS x1) ∧ semK prog (Builtin.append_ #[22, 22] 22 #[zS out, zS x1]) w3 fun v2 w4 => ∃ x2 : Slc, v2 = (zS x2) ∧ (inv [.sl x2, .i .i64 (IntKind.i64.wrap (i + (1 : Int)))] w4 ∧ mu [.sl x2, .i .i64 (IntKind.i64.wrap (i + (1 : Int)))] w4 < mu [.sl out, .i .i64 i] w1))) ((inv [.sl out, .i .i64 (IntKind.i64.wrap (i + (1 : Int)))] w2 ∧ mu [.sl out, .i .i64 (IntKind.i64.wrap (i + (1 : Int)))] w2 < mu [.sl out, .i .i64 i] w1)))) (R (.returned (zS out)) w1))
theorem call21 (l : Slc) {w : World} {R : RW} (hden : sh21 l w R) : Calls prog 21 #[zS l] w R :=
  calls_of_form (q0 .z (q0 .z (q0 (q0 .z (.block none (.loop [(3, .sl), (4, (.i .i64))] (q0 (q0 .z (.cond .z .z)) (q0 (.block none (q0 .z (.cond .z .z))) .z))))) (q0 .z .z)))) func21 (by kernel_rfl) [.sl l] (by kernel_rfl) (by kernel_rfl) hden
end Go.Proofs.YthaefcgpbccmbaaGreatDoor
end
section
namespace Go.Proofs.YthaefcgpbccmbaaGreatDoor
open Go Go.Sh Go.MapKept
open Go.Proofs.Tryz
def tq (ls : List Rc) (a b : Rc) : Prop := (a.key = b.key → a.cl = b.cl → a.sq = b.sq → a = b) ∧ (a.over b = true → b.over a = false ∧ ∀ c ∈ ls, b.over c = true → a.over c = true)
theorem tame_of_tq {ls : List Rc} (h : ∀ a ∈ ls, ∀ b ∈ ls, tq ls a b) : Tame ls :=
  ⟨fun a ha b hb => (h a ha b hb).1, fun a ha b hb e => ((h a ha b hb).2 e).1, fun a ha b hb c hc e e' => ((h a ha b hb).2 e).2 c hc e'⟩
theorem mem_take_snoc {α : Type} {l : List α} {k : Nat} (hk : k < l.length) {P : α → Prop} (h : ∀ a ∈ l.take k, P a) (h' : P l[k]) : ∀ a ∈ l.take (k + 1), P a := fun a ha => by
  rw [take_snoc hk] at ha
  rcases List.mem_append.1 ha with ha | ha
  · exact h a ha
  · simp at ha; subst ha; exact h'
section
variable {w : World}
theorem c_tame {B : Nat} {s : Slc} {ls : List Rc} (hA : RecsAt B w s ls) (hn : ls.length ≤ 1000) :
    Calls prog 20 #[.slice s.a s.len s.cap] w (Ret fun v w' => ∃ b, v = .bool b ∧ (b = true → Tame ls) ∧ Mod NoB w w') := by
  refine call20 _ ?_
  unfold sh20
  have hlen := hA.len
  obtain ⟨ir, hr1, hr2, hr3, hr4⟩ := iRec
  obtain ⟨hs, g1, g2, g3, g4⟩ := hA
  refine ⟨fun l' w' => match l' with | [.i _ x] => ∃ i : Nat, x = i ∧ i ≤ ls.length ∧ (∀ a ∈ ls.take i, ∀ b ∈ ls, tq ls a b) ∧ Mod NoB w w' | _ => False, fun l' _ => match l' with | [.i _ x] => (ls.length - x).toNat | _ => 0, ⟨0, rfl, by omega, by simp, Mod.refl _ _⟩, ?_⟩
  rintro x w1 ⟨i, rfl, hi, hI, hm1⟩
  refine condK_i (fun h => ?_) fun h => ?_
  · have hil : i < ls.length := by have := of_decide_eq_true h; omega
    have hih : i < hs.length := by omega
    obtain ⟨A, ea, hrA⟩ := rd_flat Hd.len (by omega) g1 hih
    have Hi := (g4 i hih hil).1
    refine ⟨fun l' w' => match l' with | [.i _ x] => ∃ k : Nat, x = k ∧ k ≤ ls.length ∧ (∀ b ∈ ls.take k, tq ls ls[i] b) ∧ Mod NoB w w' | _ => False, fun l' _ => match l' with | [.i _ x] => (ls.length - x).toNat | _ => 0, ⟨0, rfl, by omega, by simp, hm1⟩, ?_⟩
    rintro y w2 ⟨k, rfl, hk, hK, hm2⟩
    refine condK_i (fun h => ?_) fun h => ?_
    · have hkl : k < ls.length := by have := of_decide_eq_true h; omega
      have hkh : k < hs.length := by omega
      obtain ⟨A', ea', hrA'⟩ := rd_flat Hd.len (by omega) g1 hkh
      rw [ea] at ea'; cases ea'
      have Hk := (g4 k hkh hkl).1
      rw [ea]
      refine ⟨fun l' w' => match l' with | [.p pa, .p pb] => ∃ (p q : Nat) (T T' : TypeId), pa = some ⟨p, 0, none⟩ ∧ pb = some ⟨q, 0, none⟩ ∧ Blk w' p hs[i].cells T ∧ Blk w' q hs[k].cells T' ∧ Mod NoB w w' | _ => False, ?_, ?_⟩
      · have hm2d := hm2.tr (Mod.drew NoB w2)
        refine ⟨Mod NoB w2.drew, Mod.refl _ _, ⟨by omega, by omega⟩, ⟨by omega, by omega⟩, hs[i].a, hs[i].b, hs[i].c, hs[i].d, hs[i].e, hs[i].f, hs[i].g, fun w' hm => hrA.mod (hm2d.tr hm) fun h => h, hs[k].a, hs[k].b, hs[k].c, hs[k].d, hs[k].e, hs[k].f, hs[k].g, fun w' hm => hrA'.mod (hm2d.tr hm) fun h => h, ?_, ?_, trivial⟩
        · refine sem_alloc (l := Hd.cells ⟨[], 0, 0, ⟨none, 0, 0⟩, false, ⟨none, 0, 0⟩, ⟨none, 0, 0⟩⟩) hr1 hr2 rfl fun p w3 hN3 hp3 => ⟨_, rfl, hN3.mod, ?_, trivial⟩
          refine sem_alloc (l := Hd.cells ⟨[], 0, 0, ⟨none, 0, 0⟩, false, ⟨none, 0, 0⟩, ⟨none, 0, 0⟩⟩) hr1 hr2 rfl fun q w4 hN4 hq4 => ⟨_, rfl, hN3.mod.tr hN4.mod, ?_, trivial⟩
          have e3 := hN3.at_; have e4 := hN4.at_; have s3 := hN3.size; have s4 := hN4.size
          refine semU_hd (h := hs[i]) (by kernel_rfl) (by kernel_rfl) (hp3.no hN4.mod) rfl fun w5 ht5 hp5 => ?_
          have hm5 : Mod NoB w2.drew w5 := (hN3.mod.tr hN4.mod).fresh ht5.mod fun z e => by omega
          refine ⟨hm5, ?_, trivial⟩
          refine semU_hd (h := hs[k]) (by kernel_rfl) (by kernel_rfl) (hq4.mod ht5.mod (by omega)) rfl fun w6 ht6 hq6 => ?_
          exact ⟨p, q, _, _, rfl, rfl, hp5.mod ht6.mod (by omega), hq6, hm2d.tr (hm5.fresh ht6.mod fun z e => by omega)⟩
        · refine sem_alloc (l := Hd.cells ⟨[], 0, 0, ⟨none, 0, 0⟩, false, ⟨none, 0, 0⟩, ⟨none, 0, 0⟩⟩) hr1 hr2 rfl fun q w3 hN3 hq3 => ⟨_, rfl, hN3.mod, ?_, trivial⟩
          refine sem_alloc (l := Hd.cells ⟨[], 0, 0, ⟨none, 0, 0⟩, false, ⟨none, 0, 0⟩, ⟨none, 0, 0⟩⟩) hr1 hr2 rfl fun p w4 hN4 hp4 => ⟨_, rfl, hN3.mod.tr hN4.mod, ?_, trivial⟩
          have e3 := hN3.at_; have e4 := hN4.at_; have s3 := hN3.size; have s4 := hN4.size
          refine semU_hd (h := hs[i]) (by kernel_rfl) (by kernel_rfl) hp4 rfl fun w5 ht5 hp5 => ?_
          have hm5 : Mod NoB w2.drew w5 := (hN3.mod.tr hN4.mod).fresh ht5.mod fun z e => by omega
          refine ⟨hm5, ?_, trivial⟩
          refine semU_hd (h := hs[k]) (by kernel_rfl) (by kernel_rfl) ((hq3.no hN4.mod).mod ht5.mod (by omega)) rfl fun w6 ht6 hq6 => ?_
          exact ⟨p, q, _, _, rfl, rfl, hp5.mod ht6.mod (by omega), hq6, hm2d.tr (hm5.fresh ht6.mod fun z e => by omega)⟩
      · rintro pa pb w3 ⟨p, q, T, T', rfl, rfl, hp, hq, hm3⟩
        refine ⟨fun l' w' => match l' with | [.b t] => (t = false → ls[i].key = ls[k].key → ls[i].cl = ls[k].cl → ls[i].sq = ls[k].sq → ls[i] = ls[k]) ∧ Mod NoB w3 w' | _ => False, ?_, ?_⟩
        · refine ⟨hs[i].a, rdHj (i := 0) hp rfl, hs[k].a, rdHj (i := 0) hq rfl, condK_i (fun h1 => ?_) fun h1 => ⟨fun _ e => ?_, Mod.refl _ _⟩⟩
          · refine ⟨hs[i].b, rdHj (i := 1) hp rfl, hs[k].b, rdHj (i := 1) hq rfl, condK_i (fun h2 => ?_) fun h2 => ⟨fun _ _ e => ?_, Mod.refl _ _⟩⟩
            · refine ⟨hs[i].c, rdHj (i := 2) hp rfl, hs[k].c, rdHj (i := 2) hq rfl, condK_i (fun h3 => ?_) fun h3 => ⟨fun _ _ _ e => ?_, Mod.refl _ _⟩⟩
              · refine ⟨hs[i].a, hs[i].b, hs[i].c, hs[i].d, hs[i].e, hs[i].f, hs[i].g, rdH hp, hs[k].a, hs[k].b, hs[k].c, hs[k].d, hs[k].e, hs[k].f, hs[k].g, rdH hq, ?_⟩
                refine callK_ret (c_sameRec (a := hs[i]) (b := hs[k]) (Hi.no hm3) (Hk.no hm3)) ?_
                rintro v w4 ⟨rfl, hm4⟩
                exact ⟨_, rfl, fun ht _ _ _ => by simpa using ht, hm4⟩
              · rw [Hi.sq, Hk.sq, e] at h3; simp at h3
            · rw [Hi.cl, Hk.cl, e] at h2; simp at h2
          · rw [Hi.key, Hk.key, e] at h1; simp at h1
        · rintro t w4 ⟨ht, hm4⟩
          refine condK_i (fun h => ⟨false, rfl, (fun e => by cases e), hm3.tr hm4⟩) fun h => ?_
          have hsame := ht h
          have hp4 := hp.no hm4
          have hq4 := hq.no hm4
          have hM4 := hm3.tr hm4
          refine ⟨hs[i].a, hs[i].b, hs[i].c, hs[i].d, hs[i].e, hs[i].f, hs[i].g, rdH hp4, hs[k].a, hs[k].b, hs[k].c, hs[k].d, hs[k].e, hs[k].f, hs[k].g, rdH hq4, ?_⟩
          refine callK_ret (c_Over (a := hs[i]) (b := hs[k]) (Hi.no hM4) (Hk.no hM4)) ?_
          rintro v w5 ⟨rfl, hm5⟩
          have hM5 := hM4.tr hm5
          refine ⟨_, rfl, condK_i (fun h => ?_) fun h => ?_⟩
          · have h : ls[i].over ls[k] = false := by simpa using h
            refine ⟨⟨k + 1, wrap_nat (by omega), by omega, mem_take_snoc hkl hK ⟨hsame, (fun e => by rw [h] at e; cases e)⟩, hM5⟩, ?_⟩
            rw [wrap_nat (by omega)]; (try simp only []); omega
          have hik : ls[i].over ls[k] = true := by simpa using h
          have hp5 := hp4.no hm5
          have hq5 := hq4.no hm5
          refine ⟨hs[k].a, hs[k].b, hs[k].c, hs[k].d, hs[k].e, hs[k].f, hs[k].g, rdH hq5, hs[i].a, hs[i].b, hs[i].c, hs[i].d, hs[i].e, hs[i].f, hs[i].g, rdH hp5, ?_⟩
          refine callK_ret (c_Over (a := hs[k]) (b := hs[i]) (Hk.no hM5) (Hi.no hM5)) ?_
          rintro v w6 ⟨rfl, hm6⟩
          have hM6 := hM5.tr hm6
          refine ⟨_, rfl, condK_i (fun h => ⟨false, rfl, (fun e => by cases e), hM6⟩) fun hki => ?_⟩
          have hp6 := hp5.no hm6
          have hq6 := hq5.no hm6
          refine ⟨fun l' w' => match l' with | [.i _ x] => ∃ j : Nat, x = j ∧ j ≤ ls.length ∧ (∀ c ∈ ls.take j, ls[k].over c = true → ls[i].over c = true) ∧ Mod NoB w6 w' | _ => False, fun l' _ => match l' with | [.i _ x] => (ls.length - x).toNat | _ => 0, ⟨0, rfl, by omega, by simp, Mod.refl _ _⟩, ?_⟩
          rintro z w7 ⟨j, rfl, hj, hJ, hm7⟩
          refine condK_i (fun h => ?_) fun h => ?_
          · have hjl : j < ls.length := by have := of_decide_eq_true h; omega
            have hjh : j < hs.length := by omega
            obtain ⟨A', ea', hrJ⟩ := rd_flat Hd.len (by omega) g1 hjh
            rw [ea] at ea'; cases ea'
            have Hj := (g4 j hjh hjl).1
            have hm7d := hm7.tr (Mod.drew NoB w7)
            have hM7d := hM6.tr hm7d
            refine ⟨Mod NoB w7.drew, Mod.refl _ _, ⟨by omega, by omega⟩, hs[k].a, hs[k].b, hs[k].c, hs[k].d, hs[k].e, hs[k].f, hs[k].g, fun w' hm => rdH (hq6.no (hm7d.tr hm)), hs[j].a, hs[j].b, hs[j].c, hs[j].d, hs[j].e, hs[j].f, hs[j].g, fun w' hm => hrJ.mod (hM7d.tr hm) fun h => h, ?_, trivial⟩
            refine callK_ret (c_Over (a := hs[k]) (b := hs[j]) (Hk.no hM7d) (Hj.no hM7d)) ?_
            rintro v w8 ⟨rfl, hm8⟩
            have hM8 := hM7d.tr hm8
            refine ⟨_, rfl, hm8, condK_i (fun hkj => ?_) fun hkj => ?_⟩
            · refine ⟨⟨by omega, by omega⟩, hs[i].a, hs[i].b, hs[i].c, hs[i].d, hs[i].e, hs[i].f, hs[i].g, fun w' hm => rdH (hp6.no (hm7d.tr hm)), hs[j].a, hs[j].b, hs[j].c, hs[j].d, hs[j].e, hs[j].f, hs[j].g, fun w' hm => hrJ.mod (hM7d.tr hm) fun h => h, ?_, trivial⟩
              refine callK_ret (c_Over (a := hs[i]) (b := hs[j]) (Hi.no hM8) (Hj.no hM8)) ?_
              rintro v w9 ⟨rfl, hm9⟩
              have hM9 := hM8.tr hm9
              refine ⟨_, rfl, hm8.tr hm9, condK_i (fun h => ⟨false, rfl, (fun e => by cases e), hM9⟩) fun h => ?_⟩
              have hij : ls[i].over ls[j] = true := by simpa using h
              refine ⟨⟨j + 1, wrap_nat (by omega), by omega, mem_take_snoc hjl hJ fun _ => hij, hm7d.tr (hm8.tr hm9)⟩, ?_⟩
              rw [wrap_nat (by omega)]; (try simp only []); omega
            · refine ⟨⟨hm8, ⟨j + 1, wrap_nat (by omega), by omega, mem_take_snoc hjl hJ (fun e => by rw [hkj] at e; cases e), hm7d.tr hm8⟩, ?_⟩, trivial⟩
              rw [wrap_nat (by omega)]; (try simp only []); omega
          · have hjl : j = ls.length := by have := of_decide_eq_false h; omega
            subst hjl
            rw [List.take_length] at hJ
            refine ⟨⟨k + 1, wrap_nat (by omega), by omega, mem_take_snoc hkl hK ⟨hsame, fun _ => ⟨hki, hJ⟩⟩, hM6.tr hm7⟩, ?_⟩
            rw [wrap_nat (by omega)]; (try simp only []); omega
    · have hkl : k = ls.length := by have := of_decide_eq_false h; omega
      subst hkl
      rw [List.take_length] at hK
      refine ⟨⟨i + 1, wrap_nat (by omega), by omega, mem_take_snoc hil hI hK, hm2⟩, ?_⟩
      rw [wrap_nat (by omega)]; (try simp only []); omega
  · have hil : i = ls.length := by have := of_decide_eq_false h; omega
    subst hil
    rw [List.take_length] at hI
    exact ⟨true, rfl, fun _ => tame_of_tq hI, hm1⟩
theorem c_lright {B : Nat} {s : Slc} {ls : List Rc} (hA : RecsAt B w s ls) (hn : ls.length ≤ 1000) :
    Calls prog 21 #[.slice s.a s.len s.cap] w (Ret fun v w' => ∃ x, v = .slice x.a x.len x.cap ∧ RowN w w' x (rights ls)) := by
  refine call21 _ ?_
  unfold sh21
  have hlen := hA.len
  obtain ⟨hs, g1, g2, g3, g4⟩ := hA
  refine ⟨fun l' w' => match l' with | [.sl x, .i _ y] => ∃ i : Nat, y = i ∧ i ≤ ls.length ∧ RowN w w' x (rights (ls.take i)) | _ => False, fun l' _ => match l' with | [.sl _, .i _ y] => (ls.length - y).toNat | _ => 0, ⟨0, rfl, by omega, RowN.nil (Mod.refl _ _)⟩, ?_⟩
  rintro x y w1 ⟨i, rfl, hi, hR⟩
  refine condK_i (fun h => ?_) fun h => ?_
  · have hil : i < ls.length := by have := of_decide_eq_true h; omega
    have hih : i < hs.length := by omega
    obtain ⟨A, ea, hrA⟩ := rd_flat Hd.len (by omega) g1 hih
    have Hi := (g4 i hih hil).1
    have et : ls.take (i + 1) = ls.take i ++ [ls[i]] := take_snoc hil
    rw [ea]
    refine ⟨⟨by omega, by omega⟩, hs[i].a, hs[i].b, hs[i].c, hs[i].d, hs[i].e, hs[i].f, hs[i].g, hrA.mod hR.m fun h => h, ?_⟩
    refine callK_ret (c_right (h := hs[i]) (Hi.no hR.m)) ?_
    rintro v w2 ⟨rfl, hm2⟩
    have hR2 := hR.no hm2
    have hrl : (rights (ls.take i)).length ≤ 1000 := Nat.le_trans (List.length_filter_le _ _) (by rw [List.length_take]; omega)
    refine ⟨_, rfl, condK_i (fun hr => ?_) fun hr => ?_⟩
    · refine ⟨⟨by omega, by omega⟩, hs[i].a, hs[i].b, hs[i].c, hs[i].d, hs[i].e, hs[i].f, hs[i].g, hrA.mod hR2.m fun h => h, ?_⟩
      refine push_rec (h := hs[i]) hR2 Hi (by omega) fun x' w3 hR3 => ⟨⟨i + 1, wrap_nat (by omega), by omega, ?_⟩, ?_⟩
      · rw [et, rights_app]
        have : rights [ls[i]] = [ls[i]] := by simp [rights, hr]
        rw [this]; exact hR3
      · rw [wrap_nat (by omega)]; (try simp only []); omega
    · refine ⟨⟨i + 1, wrap_nat (by omega), by omega, ?_⟩, ?_⟩
      · rw [et, rights_app]
        have : rights [ls[i]] = [] := by simp [rights, hr]
        rw [this, List.append_nil]; exact hR2
      · rw [wrap_nat (by omega)]; (try simp only []); omega
  · have hil : i = ls.length := by have := of_decide_eq_false h; omega
    subst hil
    rw [List.take_length] at hR
    exact ⟨x, rfl, hR⟩
end
theorem hcells_cut (hs : List Hd) (a b : Nat) (h1 : a ≤ b) (h2 : b ≤ hs.length) : ((hcells hs).drop (a * 7)).take ((b - a) * 7) = hcells ((hs.drop a).take (b - a)) := by
  have hd : ∀ (l : List Hd) (n : Nat), n ≤ l.length → (hcells l).drop (n * 7) = hcells (l.drop n) := by
    intro l n hn
    have e : hcells l = hcells (l.take n) ++ hcells (l.drop n) := by rw [hcells, hcells, hcells, ← flatC_app, List.take_append_drop]
    have hl : (hcells (l.take n)).length = n * 7 := by rw [hcells, flatC_len Hd.len, List.length_take, Nat.min_eq_left hn]
    rw [e, List.drop_append_of_le_length (by omega), List.drop_eq_nil_of_le (by omega), List.nil_append]
  rw [hd hs a (by omega)]
  exact flatC_take Hd.len (by rw [List.length_drop]; omega)
theorem RecsAt.cut {B : Nat} {w : World} {s : Slc} {ls : List Rc} (h : RecsAt B w s ls) {a b : Nat} (h1 : a ≤ b) (h2 : b ≤ ls.length) : RecsAt B w (cutSl s 7 a b s.cap) ((ls.drop a).take (b - a)) := by
  have hlen := h.len
  obtain ⟨hs, g1, g2, g3, g4⟩ := h
  have hc := g1.2.1
  refine ⟨(hs.drop a).take (b - a), ?_, fun z hz => g2 z (blk_cut hz (Nat.le_refl _)), by simp only [List.length_take, List.length_drop]; omega, fun i c d => ?_⟩
  · have := g1.cut (l := a) (n := b) (m := s.cap) h1 (by omega) (by omega) (Nat.le_refl _)
    rwa [hcells_cut hs a b h1 (by omega)] at this
  · simp only [List.length_take, List.length_drop] at c d
    simp only [List.getElem_take, List.getElem_drop]
    exact g4 (a + i) (by omega) (by omega)
theorem greatest_len {ls : List Rc} {L : Lv} (h : IsLeaves ls L) : (L.flatMap (·.2)).length ≤ ls.length * ls.length := by
  obtain ⟨m1, m2⟩ := isLeaves_len h
  have : ∀ (M : List (List UInt8 × List Rc)), (∀ e ∈ M, e.2.length ≤ ls.length) → (M.flatMap (·.2)).length ≤ M.length * ls.length := by
    intro M
    induction M with
    | nil => intro _; simp
    | cons e M ih =>
      intro h
      have h1 := h e (by simp)
      have h2 := ih fun e he => h e (by simp [he])
      simp only [List.flatMap_cons, List.length_append, List.length_cons, Nat.succ_mul]; omega
  exact Nat.le_trans (this L m2) (Nat.mul_le_mul m1 (Nat.le_refl _))
section
variable {w : World}
theorem c_unionSteps {s : Slc} {cut : Int} {ls : List Rc} (hg : GlobS w) (hl : RecsIn w s ls) (hn : s.len ≤ 9000000000000000000) :
    Calls prog 5 #[.slice s.a s.len s.cap, .int .i64 cut] w (Ret fun v w' => v = .bool true ∧ Mod NoB w w') := by
  refine call5 _ _ ?_
  unfold sh5
  obtain ⟨ir, hr1, hr2, hr3, hr4⟩ := iRec
  refine callK_ret (c_awake hg) ?_
  rintro v w1 ⟨rfl, hm1⟩
  refine ⟨_, rfl, condK_i (fun h => by cases h) fun _ => ?_⟩
  refine ⟨fun l' w' => match l' with | [.b t] => (t = false → lightQ ls ∧ Tame (rights ls)) ∧ Mod NoB w1 w' | _ => False, ?_, ?_⟩
  · refine callK_ret (c_light (hl.no hm1) (by omega)) ?_
    rintro v w2 ⟨b, rfl, hb, rfl⟩
    refine ⟨b, rfl, condK_i (fun h => ⟨(fun h => by cases h), Mod.refl _ _⟩) fun h => ?_⟩
    have hq := hb (by simpa using h)
    have hq1 := hq.1
    refine callK_ret (c_lright ((hl.no hm1).at hq) (by omega)) ?_
    rintro v w3 ⟨x2, rfl, hR⟩
    have hrl : (rights ls).length ≤ 16 := Nat.le_trans (List.length_filter_le _ _) hq1
    refine ⟨x2, rfl, callK_ret (c_tame hR.at (by omega)) ?_⟩
    rintro v w4 ⟨b', rfl, hb', hm4⟩
    exact ⟨b', rfl, fun e => ⟨hq, hb' (by simpa using e)⟩, hR.m.tr hm4⟩
  · rintro t w5 ⟨ht, hm5⟩
    refine condK_i (fun h => ⟨rfl, hm1.tr hm5⟩) fun h => ?_
    obtain ⟨hq, hT⟩ := ht h
    have hq1 := hq.1
    have hlen := hl.len
    have hM5 := hm1.tr hm5
    have hA := (hl.no hM5).at hq
    rw [wrap_nat (by omega)]
    refine callK_ret (c_pick (n := s.len + 1) (by omega) (by omega)) ?_
    rintro v w6 ⟨r, rfl, hr, rfl⟩
    refine ⟨(r : Int), rfl, ?_⟩
    refine callK_ret (c_Greatest hA (by omega)) ?_
    rintro v w7 ⟨x6, L, rfl, hL, hS, hm7⟩
    have hcap : s.len ≤ s.cap := by obtain ⟨_, q, _⟩ := hl; exact q.2.1
    refine ⟨x6, rfl, ⟨by omega, by omega⟩, ⟨by omega, by omega⟩, ?_, trivial⟩
    simp only [Int.toNat_natCast]
    have hm7d := hm7.tr (Mod.drew NoB w7)
    have hA7 : RecsAt w7.drew.heap.size w7.drew s ls := (hA.mod (hm7d.mono fun _ _ h => h.elim)).le hm7d.size
    have c1 : RecsAt w7.drew.heap.size w7.drew (cutSl s 7 0 r s.cap) (ls.take r) := by
      have := hA7.cut (a := 0) (b := r) (by omega) (by omega)
      simpa using this
    have hl1 : (ls.take r).length ≤ 16 := by rw [List.length_take]; omega
    refine callK_ret (c_Greatest c1 (by omega)) ?_
    rintro v w8 ⟨x7, L1, rfl, hL1, hS1, hm8⟩
    refine ⟨x7, rfl, ?_, trivial⟩
    have hA8 : RecsAt w8.heap.size w8 s ls := (hA7.mod (hm8.mono fun _ _ h => h.elim)).le hm8.size
    have c2 : RecsAt w8.heap.size w8 (cutSl s 7 r s.len s.cap) (ls.drop r) := by
      have := hA8.cut (a := r) (b := s.len) (by omega) (by omega)
      rwa [List.take_of_length_le (by rw [List.length_drop]; omega)] at this
    have hl2 : (ls.drop r).length ≤ 16 := by rw [List.length_drop]; omega
    refine callK_ret (c_Greatest c2 (by omega)) ?_
    rintro v w9 ⟨x8, L2, rfl, hL2, hS2, hm9⟩
    refine ⟨x8, rfl, ?_, trivial⟩
    have n1 := greatest_len hL1
    have n2 := greatest_len hL2
    have m1 : (ls.take r).length * (ls.take r).length ≤ 16 * 16 := Nat.mul_le_mul hl1 hl1
    have m2 : (ls.drop r).length * (ls.drop r).length ≤ 16 * 16 := Nat.mul_le_mul hl2 hl2
    obtain ⟨B1, h1, o1, b1, z1, k1, a1⟩ := hS1
    obtain ⟨B2, h2, o2, b2, z2, k2, a2⟩ := hS2
    have p1 := rd_lenC Hd.len (by omega) o1.rd
    have p2 := rd_lenC Hd.len (by omega) o2.rd
    refine sem_append uRecs hr1 hr2 hr3 rfl hr4 (o1.no hm9) o2.rd (flatC_one Hd.one _) (by omega) (by omega) fun x9 w10 ho hlen9 hblk hm10 => ⟨x9, rfl, ?_⟩
    have sz8 : ∀ z, x7.blk = some z → z < w8.heap.size := fun z hz => o1.lt hz
    have hR10 : RecsAt w10.heap.size w10 x9 (L1.flatMap (·.2) ++ L2.flatMap (·.2)) := by
      refine ⟨h1 ++ h2, by rw [hcells, flatC_app]; exact ho.rd, fun z hz => ho.lt hz, by simp [k1, k2], fun i c d => ?_⟩
      have hh : HdAt w10 (h1 ++ h2)[i] (L1.flatMap (·.2) ++ L2.flatMap (·.2))[i] := by
        rcases Nat.lt_or_ge i h1.length with hi | hi
        · rw [List.getElem_append_left hi, List.getElem_append_left (by omega)]
          obtain ⟨g1, g2⟩ := a1 i hi (by omega)
          exact (g1.no hm9).mod hm10 fun z hz e => by have := (g2 z hz).2; have := b1 z e; omega
        · rw [List.getElem_append_right hi, List.getElem_append_right (by omega)]
          simp only [k1]
          rw [List.length_append] at c
          obtain ⟨g1, g2⟩ := a2 (i - (L1.flatMap (·.2)).length) (by omega) (by rw [List.length_append] at d; omega)
          exact g1.mod hm10 fun z hz e => by have := (g2 z hz).1; have := sz8 z e; omega
      exact ⟨hh, fun z hz => hh.lt z hz⟩
    have hm710 : Mod NoB w7 w10 := ((Mod.drew NoB w7).tr (hm8.tr hm9)).fresh hm10 fun z e => by have := b1 z e; have e : w7.drew.heap.size = w7.heap.size := rfl; omega
    have hpl : (L1.flatMap (·.2) ++ L2.flatMap (·.2)).length ≤ 512 := by rw [List.length_append]; omega
    refine callK_ret (c_Greatest hR10 (by omega)) ?_
    rintro v w11 ⟨x10, L', rfl, hL', hS', hm11⟩
    have et : ls.take r ++ ls.drop r = ls := List.take_append_drop r ls
    obtain rfl : L' = L := steps (l1 := ls.take r) (l2 := ls.drop r) (by rw [et]; exact hT) (by rw [et]; exact hL) hL1 hL2 hL'
    refine ⟨x10, rfl, ?_⟩
    have n3 := greatest_len hL
    have m3 : ls.length * ls.length ≤ 16 * 16 := Nat.mul_le_mul hq1 hq1
    have hm711 := hm710.tr hm11
    refine callK_ret (c_sameRecs hS'.r (hS.r.no hm711) (by omega)) ?_
    rintro v w12 ⟨rfl, hm12⟩
    refine ⟨_, rfl, condK_i (fun h => by simp at h) fun _ => ?_⟩
    have hm712 := hm711.tr hm12
    have hM12 := hm7.tr hm712
    have hA12 : RecsAt w12.heap.size w12 s ls := (hA.mod (hM12.mono fun _ _ h => h.elim)).le hM12.size
    refine callK_ret (c_lright hA12 (by omega)) ?_
    rintro v w13 ⟨x12, rfl, hR⟩
    refine ⟨x12, rfl, ?_⟩
    have hG := (hS.r.no hm712).no hR.m
    have hRl := hR.at.len
    have hcov : ∀ {r : Rc}, r ∈ rights ls → ∃ z ∈ L'.flatMap (·.2), z = r ∨ z.over r = true := fun hr => covered hT hL hr
    generalize L'.flatMap (·.2) = G at hG hcov n3
    have hGl := hG.len
    have hrl : (rights ls).length ≤ 16 := Nat.le_trans (List.length_filter_le _ _) hq1
    have hMall := hM5.tr (hM12.tr hR.m)
    have hRR := hR.at.r
    refine ⟨fun l' w' => match l' with | [.i _ x] => ∃ i : Nat, x = i ∧ i ≤ (rights ls).length ∧ Mod NoB w13 w' | _ => False, fun l' _ => match l' with | [.i _ x] => ((rights ls).length - x).toNat | _ => 0, ⟨0, rfl, by omega, Mod.refl _ _⟩, ?_⟩
    rintro y w14 ⟨i, rfl, hi, hm14⟩
    refine condK_i (fun h => ?_) fun h => ⟨rfl, hMall.tr hm14⟩
    have hil : i < (rights ls).length := by have := of_decide_eq_true h; omega
    refine ⟨fun l' w' => match l' with | [.b is, .i _ x] => ∃ n : Nat, x = n ∧ n ≤ G.length ∧ is = (G.take n).any (fun z => decide (z = (rights ls)[i]) || z.over (rights ls)[i]) ∧ Mod NoB w13 w' | _ => False, fun l' _ => match l' with | [.b _, .i _ x] => (G.length - x).toNat | _ => 0, ⟨0, rfl, by omega, by simp, hm14⟩, ?_⟩
    rintro is x w15 ⟨n, rfl, hn', his, hm15⟩
    refine condK_i (fun h => ?_) fun h => ?_
    · have hnl : n < G.length := by have := of_decide_eq_true h; omega
      have hm15d := hm15.tr (Mod.drew NoB w15)
      have ean : (G.take (n + 1)).any (fun z => decide (z = (rights ls)[i]) || z.over (rights ls)[i]) = ((G.take n).any (fun z => decide (z = (rights ls)[i]) || z.over (rights ls)[i]) || (decide (G[n] = (rights ls)[i]) || (G[n]).over (rights ls)[i])) := by
        rw [take_snoc hnl, List.any_append]; simp
      refine ⟨Mod NoB w15.drew, Mod.refl _ _, condK_i (fun h1 => ?_) fun h1 => ?_⟩
      · refine ⟨⟨Mod.refl _ _, ⟨Mod.refl _ _, ⟨n + 1, wrap_nat (by omega), by omega, ?_, hm15d⟩, ?_⟩, trivial⟩, trivial⟩
        · rw [ean, ← his, h1]; rfl
        · rw [wrap_nat (by omega)]; (try simp only []); omega
      · have h1 : is = false := h1
        subst h1
        obtain ⟨g, q1, q2, q3⟩ := hG.no hm15d
        obtain ⟨f, t1, t2, t3⟩ := hRR.no hm15d
        obtain ⟨A, ea, hra⟩ := rd_flat Hd.len (by omega) q1 (i := n) (by omega)
        obtain ⟨A', eb, hrb⟩ := rd_flat Hd.len (by omega) t1 (i := i) (by omega)
        rw [ea, eb]
        let p := g[n]'(by omega)
        let q := f[i]'(by omega)
        have Hp : HdAt w15.drew p G[n] := q3 n (by omega) hnl
        have Hq : HdAt w15.drew q (rights ls)[i] := t3 i (by omega) hil
        refine ⟨⟨by omega, by omega⟩, ⟨by omega, by omega⟩, p.a, p.b, p.c, p.d, p.e, p.f, p.g, fun w' hm => hra.mod hm fun h => h, q.a, q.b, q.c, q.d, q.e, q.f, q.g, fun w' hm => hrb.mod hm fun h => h, ?_, trivial⟩
        refine callK_ret (c_sameRec (a := p) (b := q) Hp Hq) ?_
        rintro v w16 ⟨rfl, hm16⟩
        refine ⟨_, rfl, hm16, condK_i (fun h2 => ?_) fun h2 => ?_⟩
        · refine ⟨⟨hm16, ⟨n + 1, wrap_nat (by omega), by omega, ?_, hm15d.tr hm16⟩, ?_⟩, trivial⟩
          · rw [ean, ← his, h2]; rfl
          · rw [wrap_nat (by omega)]; (try simp only []); omega
        · refine ⟨⟨by omega, by omega⟩, ⟨by omega, by omega⟩, p.a, p.b, p.c, p.d, p.e, p.f, p.g, fun w' hm => hra.mod hm fun h => h, q.a, q.b, q.c, q.d, q.e, q.f, q.g, fun w' hm => hrb.mod hm fun h => h, ?_, trivial⟩
          refine callK_ret (c_Over (a := p) (b := q) (Hp.no hm16) (Hq.no hm16)) ?_
          rintro v w17 ⟨rfl, hm17⟩
          refine ⟨_, rfl, hm16.tr hm17, ⟨n + 1, wrap_nat (by omega), by omega, ?_, hm15d.tr (hm16.tr hm17)⟩, ?_⟩
          · rw [ean, ← his, h2]; rfl
          · rw [wrap_nat (by omega)]; (try simp only []); omega
    · have hnl : n = G.length := by have := of_decide_eq_false h; omega
      rw [hnl, List.take_length] at his
      have hit : is = true := by
        rw [his]
        obtain ⟨z, hz, hz2⟩ := hcov (List.getElem_mem hil)
        refine List.any_eq_true.2 ⟨z, hz, ?_⟩
        rcases hz2 with rfl | hz2
        · simp
        · simp [hz2]
      refine condK_i (fun h => by rw [hit] at h; cases h) fun _ => ⟨⟨i + 1, wrap_nat (by omega), by omega, hm15⟩, ?_⟩
      rw [wrap_nat (by omega)]; (try simp only []); omega
end
end Go.Proofs.YthaefcgpbccmbaaGreatDoor
end
