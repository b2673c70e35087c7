/- The forms of the translated functions, their contracts and the plain laws behind them, put together by a program. -/
import Derived.Test.YthaefcgpbccmbaaGreatDoorPO19
import Derived.Laws.StructEq
import Derived.Test.YthaefcgpbccmbaaGreatDoorProg
import Derived.KernelRfl
set_option linter.unusedSimpArgs false
set_option linter.unusedVariables false
set_option maxRecDepth 100000
set_option maxHeartbeats 4000000
section
namespace Go.Proofs.YthaefcgpbccmbaaGreatDoor
open Go Go.Sh Go.MapKept
theorem uDotS : Tryz.prog.underlying 52 = some (.struct (Tryz.prog.fieldsOf 52)) := by kernel_rfl
theorem ps_dot {ox oy : Operand} {x y : Int × Int} {K : Value → Prop} (hk : K (.bool (!decide (x = y)))) :
    pureSem Tryz.prog (do eqGuard .neq 52 ox oy (.agg #[.int .i64 x.1, .int .i64 x.2]) (.agg #[.int .i64 y.1, .int .i64 y.2]); binOp .neq 52 (.agg #[.int .i64 x.1, .int .i64 x.2]) (.agg #[.int .i64 y.1, .int .i64 y.2])) K := by
  refine ps_of (fun w => ?_) hk
  have hg : Tryz.prog.eqGuardType Tryz.prog.depth 52 = false := by kernel_rfl
  have u3 := Tryz.underlying3
  have a3 := Tryz.isAgg3
  have z3 := Tryz.sizeOf3
  have he' : (Op.equal 52 (.agg #[.int .i64 x.1, .int .i64 x.2]) (.agg #[.int .i64 y.1, .int .i64 y.2])).run Tryz.prog w = .ok (decide (x = y)) w := by
    show (Op.equalIn 10000 52 _ _).run _ _ = _
    rw [show (10000 : Nat) = 9999 + 1 from rfl, run_equalIn_agg w 9999 52 _ _ uDotS (by kernel_rfl)]
    simp only [Program.fieldsOf, Tryz.underlying52]
    go_simp
    by_cases h1 : x.1 = y.1 <;> by_cases h2 : x.2 = y.2 <;> simp [h1, h2, Prod.ext_iff]
  simp only [Sem.run_bind, run_eqGuard_agg w .neq 52 ox oy _ _ hg, Result.andThen_ok]
  show (do pure (Value.bool (!(← Op.equal 52 _ _))) : Sem Value).run Tryz.prog w = _
  simp only [Sem.run_bind, he', Result.andThen_ok]
  rfl
theorem c_sameD {w : World} {a b : Slc} {l m : List (Int × Int)} (ha : SlRd w a 2 (dts l)) (hb : SlRd w b 2 (dts m)) (hn : l.length ≤ 9000000000000000000) :
    Calls Tryz.prog 42 #[.slice a.a a.len a.cap, .slice b.a b.len b.cap] w (Ret fun v w' => v = .bool (decide (l = m)) ∧ Mod NoB w w') := by
  refine call42 _ _ ?_
  unfold sh42
  have hla : l.length = a.len := by have := ha.1; simp at this; omega
  have hlb : m.length = b.len := by have := hb.1; simp at this; omega
  refine condK_i (fun h => ⟨?_, Mod.refl _ _⟩) (fun h => ?_)
  · have : l ≠ m := by rintro rfl; simp at h; omega
    simp [this]
  · have hlen : l.length = m.length := by simp at h; omega
    refine ⟨fun l' w' => match l' with | [.i _ x] => ∃ k : Nat, x = k ∧ k ≤ l.length ∧ l.take k = m.take k ∧ Mod NoB w w' | _ => False, fun l' _ => match l' with | [.i _ x] => (l.length - x).toNat | _ => 0, ⟨0, rfl, by omega, rfl, Mod.refl _ _⟩, ?_⟩
    rintro x w1 ⟨k, rfl, hk, hkk, hm1⟩
    refine condK_i (fun h => ?_) (fun h => ?_)
    · have hk' : k < l.length := by simp at h; omega
      obtain ⟨a1, ea, hra⟩ := rd_dot ha hk'
      obtain ⟨a2, eb, hrb⟩ := rd_dot hb (i := k) (by omega)
      rw [ea, eb]
      refine ⟨⟨by omega, by omega⟩, ⟨by omega, by omega⟩, l[k].1, l[k].2, Rd.drew (hra.mod hm1 fun h => h), (m[k]'(by omega)).1, (m[k]'(by omega)).2, Rd.drew (hrb.mod hm1 fun h => h), ps_dot ⟨_, rfl, condK_i (fun hne => ⟨?_, hm1.tr (Mod.drew _ _)⟩) (fun hne => ⟨⟨k + 1, wrap_i64 (e := (k : Int) + 1) (by omega), by omega, ?_, hm1.tr (Mod.drew _ _)⟩, ?_⟩)⟩⟩
      · have : l ≠ m := by rintro rfl; simp at hne
        simp [this]
      · have : l[k] = m[k]'(by omega) := by simpa using hne
        rw [take_snoc hk', take_snoc (by omega), hkk, this]
      · rw [wrap_i64 (e := (k : Int) + 1) (by omega)]; (try simp only []); omega
    · have hk' : k = l.length := by simp at h; omega
      rw [hk', List.take_length, hlen, List.take_length] at hkk
      exact ⟨by simp [hkk], hm1⟩
theorem rc_ext {r s : Rc} (h1 : r.key = s.key) (h2 : r.cl = s.cl) (h3 : r.sq = s.sq) (h4 : r.ctx = s.ctx) (h5 : r.gone = s.gone) (h6 : r.val = s.val) (h7 : r.sig = s.sig) : r = s := by
  obtain ⟨a, b, c, d, e, f, g⟩ := r
  obtain ⟨a', b', c', d', e', f', g'⟩ := s
  simp only at h1 h2 h3 h4 h5 h6 h7
  subst h1 h2 h3 h4 h5 h6 h7
  rfl
theorem c_sameRec {w : World} {a b : Hd} {r s : Rc} (ha : HdAt w a r) (hb : HdAt w b s) :
    Calls Tryz.prog 22 #[a.val, b.val] w (Ret fun v w' => v = .bool (decide (r = s)) ∧ Mod NoB w w') := by
  refine call22 a.a a.b a.c a.d a.e a.f a.g b.a b.b b.c b.d b.e b.f b.g ?_
  unfold sh22
  refine sem_box (l := a.cells) rfl fun p w1 hN1 hb1 => ⟨_, rfl, ?_⟩
  refine sem_box (l := b.cells) rfl fun q w2 hN2 hb2 => ⟨_, rfl, ?_⟩
  have hm2 : Mod NoB w w2 := hN1.mod.tr hN2.mod
  have p2 := hb1.no hN2.mod
  obtain ⟨sm1, sm2, sm3, sm4⟩ := ha.sm
  refine ⟨a.a, rdHj p2 rfl, b.a, rdHj hb2 rfl, condK_i (fun h1 => ?_) fun h1 => ⟨?_, hm2⟩⟩
  rotate_left
  · have : r ≠ s := fun e => by subst e; rw [ha.key, hb.key] at h1; simp at h1
    simp [this]
  refine ⟨a.b, rdHj p2 rfl, b.b, rdHj hb2 rfl, condK_i (fun h2 => ?_) fun h2 => ⟨?_, hm2⟩⟩
  rotate_left
  · have : r ≠ s := fun e => by subst e; rw [ha.cl, hb.cl] at h2; simp at h2
    simp [this]
  refine ⟨a.c, rdHj p2 rfl, b.c, rdHj hb2 rfl, condK_i (fun h3 => ?_) fun h3 => ⟨?_, hm2⟩⟩
  rotate_left
  · have : r ≠ s := fun e => by subst e; rw [ha.sq, hb.sq] at h3; simp at h3
    simp [this]
  refine ⟨a.d, rdHj p2 rfl, b.d, rdHj hb2 rfl, ?_⟩
  refine callK_ret (c_sameD (ha.no hm2).ctx (hb.no hm2).ctx (by omega)) ?_
  rintro v w3 ⟨rfl, hm3⟩
  have hm23 := hm2.tr hm3
  refine ⟨_, rfl, condK_i (fun h4 => ?_) fun h4 => ⟨?_, hm23⟩⟩
  rotate_left
  · have : r ≠ s := fun e => by subst e; simp at h4
    simp [this]
  refine ⟨a.e, rdHj (p2.no hm3) rfl, b.e, rdHj (hb2.no hm3) rfl, ps_eql_bool (by kernel_rfl) ⟨_, rfl, condK_i (fun h5 => ?_) fun h5 => ⟨?_, hm23⟩⟩⟩
  rotate_left
  · have : r ≠ s := fun e => by subst e; rw [ha.gone, hb.gone] at h5; simp at h5
    simp [this]
  refine ⟨a.f, rdHj (p2.no hm3) rfl, b.f, rdHj (hb2.no hm3) rfl, ?_⟩
  refine callK_ret (c_same (ha.no hm23).val (hb.no hm23).val (by omega)) ?_
  rintro v w4 ⟨rfl, hm4⟩
  have hm24 := hm23.tr hm4
  refine ⟨_, rfl, condK_i (fun h6 => ?_) fun h6 => ⟨?_, hm24⟩⟩
  rotate_left
  · have : r ≠ s := fun e => by subst e; simp at h6
    simp [this]
  refine ⟨a.g, rdHj ((p2.no hm3).no hm4) rfl, b.g, rdHj ((hb2.no hm3).no hm4) rfl, ?_⟩
  refine callK_ret (c_same (ha.no hm24).sig (hb.no hm24).sig (by omega)) ?_
  rintro v w5 ⟨rfl, hm5⟩
  refine ⟨_, rfl, congrArg Value.bool (decide_eq_decide.2 ?_), hm24.tr hm5⟩
  rw [ha.key, hb.key] at h1
  rw [ha.cl, hb.cl] at h2
  rw [ha.sq, hb.sq] at h3
  rw [ha.gone, hb.gone] at h5
  exact ⟨fun h7 => rc_ext (by simpa using h1) (by simpa using h2) (by simpa using h3) (by simpa using h4) (by simpa using h5) (by simpa using h6) h7, fun e => by rw [e]⟩
def RecsR (w : World) (s : Slc) (rs : List Rc) : Prop := ∃ hs : List Hd, SlRd w s 7 (hcells hs) ∧ hs.length = rs.length ∧ ∀ i (h : i < hs.length) (h' : i < rs.length), HdAt w hs[i] rs[i]
theorem RecsR.no {w w' : World} {s : Slc} {rs : List Rc} (h : RecsR w s rs) (hm : Mod NoB w w') : RecsR w' s rs := by
  obtain ⟨hs, h1, h2, h3⟩ := h
  exact ⟨hs, h1.no hm, h2, fun i a b => (h3 i a b).no hm⟩
theorem RecsR.len {w : World} {s : Slc} {rs : List Rc} (h : RecsR w s rs) : rs.length = s.len := by
  obtain ⟨hs, h1, h2, h3⟩ := h
  have := rd_lenC Hd.len (by omega) h1; omega
theorem SetQ.r {Q : Nat → Prop} {w : World} {s : Slc} {rs : List Rc} (h : SetQ Q w s rs) : RecsR w s rs := by
  obtain ⟨hs, h1, h2, h3, h4⟩ := h
  exact ⟨hs, h1.rd, h3, fun i a b => (h4 i a b).1⟩
theorem SetS.r {B0 : Nat} {w : World} {s : Slc} {rs : List Rc} (h : SetS B0 w s rs) : RecsR w s rs := h.q.r
def LeavesR (w : World) (o : Slc) (L : Lv) : Prop :=
  ∃ es : List (List UInt8 × Slc), SlRd w o 2 (flatC lcell es) ∧ es.length = L.length ∧ ∀ i (h : i < es.length) (h' : i < L.length), es[i].1 = L[i].1 ∧ RecsR w es[i].2 L[i].2
theorem LeavesR.no {w w' : World} {o : Slc} {L : Lv} (h : LeavesR w o L) (hm : Mod NoB w w') : LeavesR w' o L := by
  obtain ⟨es, h1, h2, h3⟩ := h
  exact ⟨es, h1.no hm, h2, fun i a b => ⟨(h3 i a b).1, (h3 i a b).2.no hm⟩⟩
theorem LeavesQ.r {Q : Nat → Prop} {w : World} {o : Slc} {L : Lv} (h : LeavesQ Q w o L) : LeavesR w o L := by
  obtain ⟨es, h1, h2, h3, h4⟩ := h
  exact ⟨es, h1.rd, h3, fun i a b => ⟨(h4 i a b).1, (h4 i a b).2.r⟩⟩
section
variable {w : World}
theorem c_sameRecs {a b : Slc} {l m : List Rc} (ha : RecsR w a l) (hb : RecsR w b m) (hn : l.length ≤ 1000000000) :
    Calls Tryz.prog 14 #[.slice a.a a.len a.cap, .slice b.a b.len b.cap] w (Ret fun v w' => v = .bool (decide (l = m)) ∧ Mod NoB w w') := by
  refine call14 _ _ ?_
  unfold sh14
  have hla := ha.len; have hlb := hb.len
  refine condK_i (fun h => ⟨?_, Mod.refl _ _⟩) (fun h => ?_)
  · have : l ≠ m := by rintro rfl; simp at h; omega
    simp [this]
  · have hlen : l.length = m.length := by simp at h; omega
    refine ⟨fun l' w' => match l' with | [.i _ x] => ∃ k : Nat, x = k ∧ k ≤ l.length ∧ l.take k = m.take k ∧ Mod NoB w w' | _ => False, fun l' _ => match l' with | [.i _ x] => (l.length - x).toNat | _ => 0, ⟨0, rfl, by omega, rfl, Mod.refl _ _⟩, ?_⟩
    rintro x w1 ⟨k, rfl, hk, hkk, hm1⟩
    refine condK_i (fun h => ?_) (fun h => ?_)
    · have hk' : k < l.length := by have := of_decide_eq_true h; omega
      have hm1d := hm1.tr (Mod.drew NoB w1)
      obtain ⟨hs, g1, g2, g3⟩ := ha.no hm1d
      obtain ⟨ht, f1, f2, f3⟩ := hb.no hm1d
      obtain ⟨A, ea, hra⟩ := rd_flat Hd.len (by omega) g1 (i := k) (by omega)
      obtain ⟨A', eb, hrb⟩ := rd_flat Hd.len (by omega) f1 (i := k) (by omega)
      rw [ea, eb]
      let p := hs[k]'(by omega)
      let q := ht[k]'(by omega)
      refine ⟨Mod NoB w1.drew, Mod.refl _ _, ⟨by omega, by omega⟩, ⟨by omega, by omega⟩, p.a, p.b, p.c, p.d, p.e, p.f, p.g, fun w' hm => hra.mod hm fun h => h, q.a, q.b, q.c, q.d, q.e, q.f, q.g, fun w' hm => hrb.mod hm fun h => h, ?_, trivial⟩
      refine callK_ret (c_sameRec (g3 k (by omega) hk') (f3 k (by omega) (by omega))) ?_
      rintro v w2 ⟨rfl, hm2⟩
      refine ⟨_, rfl, condK_i (fun hne => ⟨?_, hm1d.tr hm2⟩) (fun hne => ⟨⟨k + 1, wrap_i64 (e := (k : Int) + 1) (by omega), by omega, ?_, hm1d.tr hm2⟩, ?_⟩)⟩
      · have : l ≠ m := by rintro rfl; simp at hne
        simp [this]
      · have : l[k] = m[k]'(by omega) := by simpa using hne
        rw [take_snoc hk', take_snoc (by omega), hkk, this]
      · rw [wrap_i64 (e := (k : Int) + 1) (by omega)]; (try simp only []); omega
    · have hk' : k = l.length := by have := of_decide_eq_false h; omega
      rw [hk', List.take_length, hlen, List.take_length] at hkk
      exact ⟨by simp [hkk], hm1⟩
theorem c_sameLeaf {a b : List UInt8 × Slc} {l m : List Rc} (ha : RecsR w a.2 l) (hb : RecsR w b.2 m) (hn : l.length ≤ 1000000000) :
    Calls Tryz.prog 32 #[.agg (lcell a).toArray, .agg (lcell b).toArray] w (Ret fun v w' => v = .bool (decide ((a.1, l) = (b.1, m))) ∧ Mod NoB w w') := by
  refine call32 a.1 a.2 b.1 b.2 ?_
  unfold sh32
  refine sem_box (l := lcell a) rfl fun p w1 hN1 hb1 => ⟨_, rfl, ?_⟩
  refine sem_box (l := lcell b) rfl fun q w2 hN2 hb2 => ⟨_, rfl, ?_⟩
  have hm2 : Mod NoB w w2 := hN1.mod.tr hN2.mod
  have p2 := hb1.no hN2.mod
  refine ⟨a.1, by rw [addl]; exact p2.rd1 rfl, b.1, by rw [addl]; exact hb2.rd1 rfl, condK_i (fun h1 => ?_) fun h1 => ⟨?_, hm2⟩⟩
  · refine ⟨a.2, by rw [addl]; exact p2.rd1 rfl, b.2, by rw [addl]; exact hb2.rd1 rfl, ?_⟩
    refine callK_ret (c_sameRecs (ha.no hm2) (hb.no hm2) hn) ?_
    rintro v w3 ⟨rfl, hm3⟩
    have h1 : a.1 = b.1 := by simpa using h1
    exact ⟨_, rfl, congrArg Value.bool (decide_eq_decide.2 (by rw [Prod.mk.injEq]; simp [h1])), hm2.tr hm3⟩
  · have h1 : a.1 ≠ b.1 := by simpa using h1
    simp [Prod.mk.injEq, h1]
theorem c_sameLeaves {a b : Slc} {l m : Lv} (ha : LeavesR w a l) (hb : LeavesR w b m) (hn : l.length ≤ 1000000000) (hn2 : ∀ e ∈ l, e.2.length ≤ 1000000000) :
    Calls Tryz.prog 12 #[.slice a.a a.len a.cap, .slice b.a b.len b.cap] w (Ret fun v w' => v = .bool (decide (l = m)) ∧ Mod NoB w w') := by
  refine call12 _ _ ?_
  unfold sh12
  have hla : l.length = a.len := by obtain ⟨es, g1, g2, _⟩ := ha; have := rd_lenC lcell_len (by omega) g1; omega
  have hlb : m.length = b.len := by obtain ⟨es, g1, g2, _⟩ := hb; have := rd_lenC lcell_len (by omega) g1; omega
  refine condK_i (fun h => ⟨?_, Mod.refl _ _⟩) (fun h => ?_)
  · have : l ≠ m := by rintro rfl; simp at h; omega
    simp [this]
  · have hlen : l.length = m.length := by simp at h; omega
    refine ⟨fun l' w' => match l' with | [.i _ x] => ∃ k : Nat, x = k ∧ k ≤ l.length ∧ l.take k = m.take k ∧ Mod NoB w w' | _ => False, fun l' _ => match l' with | [.i _ x] => (l.length - x).toNat | _ => 0, ⟨0, rfl, by omega, rfl, Mod.refl _ _⟩, ?_⟩
    rintro x w1 ⟨k, rfl, hk, hkk, hm1⟩
    refine condK_i (fun h => ?_) (fun h => ?_)
    · have hk' : k < l.length := by have := of_decide_eq_true h; omega
      have hm1d := hm1.tr (Mod.drew NoB w1)
      obtain ⟨hs, g1, g2, g3⟩ := ha.no hm1d
      obtain ⟨ht, f1, f2, f3⟩ := hb.no hm1d
      obtain ⟨A, ea, hra⟩ := rd_flat lcell_len (by omega) g1 (i := k) (by omega)
      obtain ⟨A', eb, hrb⟩ := rd_flat lcell_len (by omega) f1 (i := k) (by omega)
      rw [ea, eb]
      let p := hs[k]'(by omega)
      let q := ht[k]'(by omega)
      obtain ⟨c1, c2⟩ := g3 k (by omega) hk'
      obtain ⟨d1, d2⟩ := f3 k (by omega) (by omega)
      refine ⟨Mod NoB w1.drew, Mod.refl _ _, ⟨by omega, by omega⟩, ⟨by omega, by omega⟩, p.1, p.2, fun w' hm => hra.mod hm fun h => h, q.1, q.2, fun w' hm => hrb.mod hm fun h => h, ?_, trivial⟩
      refine callK_ret (c_sameLeaf (a := p) (b := q) c2 d2 (hn2 _ (List.getElem_mem _))) ?_
      rintro v w2 ⟨rfl, hm2⟩
      have ek : decide ((p.1, l[k].2) = (q.1, (m[k]'(by omega)).2)) = decide (l[k] = m[k]'(by omega)) := by
        have e1 : p.1 = l[k].1 := c1
        have e2 : q.1 = (m[k]'(by omega)).1 := d1
        rw [e1, e2]
      rw [ek]
      refine ⟨_, rfl, condK_i (fun hne => ⟨?_, hm1d.tr hm2⟩) (fun hne => ⟨⟨k + 1, wrap_i64 (e := (k : Int) + 1) (by omega), by omega, ?_, hm1d.tr hm2⟩, ?_⟩)⟩
      · have : l ≠ m := by rintro rfl; simp at hne
        simp [this]
      · have : l[k] = m[k]'(by omega) := by simpa using hne
        rw [take_snoc hk', take_snoc (by omega), hkk, this]
      · rw [wrap_i64 (e := (k : Int) + 1) (by omega)]; (try simp only []); omega
    · have hk' : k = l.length := by have := of_decide_eq_false h; omega
      rw [hk', List.take_length, hlen, List.take_length] at hkk
      exact ⟨by simp [hkk], hm1⟩
end
end Go.Proofs.YthaefcgpbccmbaaGreatDoor
end
section
namespace Go.Proofs.YthaefcgpbccmbaaGreatDoor
open Go Go.Sh
section
variable {w : World}
theorem c_Seal {seed : Slc} {sl : List UInt8} {h : Hd} {r : Rc} (hg : GlobS w) (hs : SlRd w seed 1 (bys sl)) (hsl : ∀ z, seed.blk = some z → z < w.heap.size) (hl : sl.length = 32) (H : HdAt w h r) (hsh : r.shaped = true) :
    Calls Tryz.prog 55 #[.slice seed.a seed.len seed.cap, h.val] w (Ret fun v w' => ∃ (h' : Hd) (sg : List UInt8), v = .tuple #[h'.val, .int .i64 0] ∧ HdAt w' h' { r with sig := sg } ∧ sg.length = 64 ∧ HdNew w h' ∧ Mod NoB w w') := by
  refine call55 _ h.a h.b h.c h.d h.e h.f h.g ?_
  unfold sh55
  obtain ⟨ir, hr1, hr2, hr3, hr4⟩ := iRec
  obtain ⟨iw, hw1, hw2, hw3, hw4⟩ := iWork
  obtain ⟨sm1, sm2, sm3, sm4⟩ := H.sm
  refine sem_box (l := h.cells) rfl fun p w1 hN hb => ⟨_, rfl, ?_⟩
  refine sem_alloc (l := Hd.cells ⟨[], 0, 0, ⟨none, 0, 0⟩, false, ⟨none, 0, 0⟩, ⟨none, 0, 0⟩⟩) hr1 hr2 rfl fun x w2 hN2 hb2 => ⟨_, rfl, ?_⟩
  refine ⟨h.a, h.b, h.c, h.d, h.e, h.f, h.g, rdH (hb.no hN2.mod), ?_⟩
  refine sem_alloc (l := Hd.cells ⟨[], 0, 0, ⟨none, 0, 0⟩, false, ⟨none, 0, 0⟩, ⟨none, 0, 0⟩⟩) hw1 hw2 rfl fun q w3 hN3 hb3 => ⟨_, rfl, ?_⟩
  refine semU_hd (h := h) (by kernel_rfl) (by kernel_rfl) hb3 rfl fun w4 ht4 hq4 => ?_
  have e1 := hN.at_; have e2 := hN2.at_; have e3 := hN3.at_; have e4 := hN.size; have e5 := hN2.size; have e6 := hN3.size
  have hM4 : Mod NoB w w4 := ((hN.mod.tr hN2.mod).tr hN3.mod).fresh ht4.mod fun z e => by omega
  have hp4 := (hb.no (hN2.mod.tr hN3.mod)).mod ht4.mod (by omega)
  have hx4 := (hb2.no hN3.mod).mod ht4.mod (by omega)
  refine callK_ret (c_Public (hg.no hM4) (hs.no hM4) (fun z hz => Nat.lt_of_lt_of_le (hsl z hz) hM4.size) hl) ?_
  rintro v w5 ⟨b, lb, rfl, hlb, hbb, hsb, hm5⟩
  refine ⟨⟨some ⟨b, 0, none⟩, 32, 32⟩, rfl, ?_⟩
  refine ps_eql_slc (e := 5) u26 ⟨_, rfl, condK_i (fun h => by simp at h) fun _ => ?_⟩
  have hM5 := hM4.tr hm5
  refine ⟨h.a, h.b, h.c, h.d, h.e, h.f, h.g, rdH (hq4.no hm5), ?_⟩
  refine callK_ret (c_shaped (h := h) (H.no hM5)) ?_
  rintro u w7 ⟨rfl, hm7⟩
  rw [hsh]
  refine ⟨_, rfl, condK_i (fun h => by cases h) fun _ => ?_⟩
  have hm47 := hm5.tr hm7
  have hM7 := hM4.tr hm47
  refine ⟨h.a, h.b, h.c, h.d, h.e, h.f, h.g, rdH (hp4.no hm47), ?_⟩
  refine callK_ret (c_own (h := h) (H.no hM7)) ?_
  rintro u w9 ⟨h', rfl, H', hn', hm9⟩
  refine ⟨h'.a, h'.b, h'.c, h'.d, h'.e, h'.f, h'.g, rfl, ?_⟩
  have hm49 := hm47.tr hm9
  have hM9 := hM4.tr hm49
  have s4 : w4.heap.size = w3.heap.size := ht4.size
  have s7 := hm47.size
  refine semU_hd (h := h') (by kernel_rfl) (by kernel_rfl) (hp4.no hm49) rfl fun w10 ht10 hp10 => ?_
  have hM10 : Mod NoB w w10 := hM9.fresh ht10.mod fun z e => by omega
  have H10 : HdAt w10 h' r := H'.mod ht10.mod fun z hz e => by have := hn' z hz; omega
  have hq10 := (hq4.no hm49).mod ht10.mod (by omega)
  have hx10 := (hx4.no hm49).mod ht10.mod (by omega)
  refine ⟨h.a, h.b, h.c, h.d, h.e, h.f, h.g, rdH hq10, ?_⟩
  refine callL (c_rtext (h := h) (H.no hM10)) fun tx w11 hot hft hm11 => ?_
  refine rows_lit (wb := w11) [tx] [r.text] rfl rfl (by omega) (by omega) (Mod.refl _ _) rfl (rows1 hot.rd fun z hz => hot.lt hz) fun ty w12 hR hm12 _ => ⟨ty, rfl, ?_⟩
  have hm1012 := hm11.tr hm12
  have hM12 := hM10.tr hm1012
  obtain ⟨ss, o1, f1, l1, c1⟩ := hR
  refine callN (c_Sign (hg.no hM12) (hs.no hM12) (fun z hz => Nat.lt_of_lt_of_le (hsl z hz) hM12.size) hl o1.rd (fun z hz => o1.lt hz) l1 (fun i a b => ⟨(c1 i a b).1, fun z hz => ((c1 i a b).2 z hz).1⟩) (by have := text_len (r := r); simp; omega) (by simp)) fun sg lg w13 hog hlg hfg hm13 => ?_
  have hm1013 := hm1012.tr hm13
  have hM13 := hM10.tr hm1013
  refine semU_hd1 (i := 6) (by kernel_rfl) (by kernel_rfl) rfl (hp10.no hm1013) (by rw [Hd.len]; omega) fun w14 ht14 hp14 => ?_
  have hp14' : Blk w14 p (Hd.cells ⟨h'.a, h'.b, h'.c, h'.d, h'.e, h'.f, sg⟩) 40 := hp14
  refine ⟨h'.a, h'.b, h'.c, h'.d, h'.e, h'.f, sg, rdH hp14', ?_⟩
  refine semU_hd (h := ⟨h'.a, h'.b, h'.c, h'.d, h'.e, h'.f, sg⟩) (by kernel_rfl) (by kernel_rfl) ((hx10.no hm1013).mod ht14.mod (by omega)) rfl fun w15 ht15 hx15 => ?_
  refine ⟨h'.a, h'.b, h'.c, h'.d, h'.e, h'.f, sg, rdH hx15, ?_⟩
  have hm1315 : Mod (fun z => z = p ∨ z = x) w13 w15 := (ht14.mod.mono fun _ _ e => .inl e).tr (ht15.mod.mono fun _ _ e => .inr e)
  have hnew : ∀ z, h'.d.blk = some z ∨ h'.f.blk = some z ∨ h'.g.blk = some z → w7.heap.size ≤ z := hn'
  have hsg : ∀ z, sg.blk = some z → w12.heap.size ≤ z := hfg
  have s12 := hm1012.size; have s10 : w10.heap.size = w9.heap.size := ht10.size; have s9 := hm49.size
  have H13 := H10.no hm1013
  refine ⟨⟨h'.a, h'.b, h'.c, h'.d, h'.e, h'.f, sg⟩, lg, rfl, ⟨H'.key, H'.cl, H'.sq, H'.gone, H13.ctx.mod hm1315 fun z hz e => ?_, H13.val.mod hm1315 fun z hz e => ?_, hog.rd.mod hm1315 fun z hz e => ?_, ⟨sm1, sm2, sm3, by show lg.length ≤ 1000000; omega⟩, ?_⟩, hlg, ?_, hM13.fresh hm1315 fun z e => ?_⟩
  · have := hnew z (.inl hz); omega
  · have := hnew z (.inr (.inl hz)); omega
  · have := hsg z hz; omega
  · rintro z (hz | hz | hz)
    · exact Nat.lt_of_lt_of_le (H13.lt z (.inl hz)) hm1315.size
    · exact Nat.lt_of_lt_of_le (H13.lt z (.inr (.inl hz))) hm1315.size
    · exact Nat.lt_of_lt_of_le (hog.lt hz) hm1315.size
  · have s7' := hM7.size
    rintro z (hz | hz | hz)
    · exact Nat.le_trans s7' (hnew z (.inl hz))
    · exact Nat.le_trans s7' (hnew z (.inr (.inl hz)))
    · have := hsg z hz; have := hM12.size; omega
  · omega
end
def sh4 (l order : Slc) (w : World) (R : Ending → World → Prop) : Prop :=
  callK Tryz.prog 7 [] w (panR R) fun v w1 => ∃ x : Bool, v = (.bool x) ∧ condK (!x) (R (.returned (.bool false)) w1) (∃ j : List TV → World → Prop, (callK Tryz.prog 8 [.slice l.a l.len l.cap] w1 (panR R) fun v1 w2 => ∃ x1 : Bool, v1 = (.bool x1) ∧ condK (!x1) (j [.b true] w2) (j [.b (decide ((order.len : Int) > (30 : Int)))] w2)) ∧ (∀ x2 : Bool, ∀ w3 : World, j [.b x2] w3 → condK x2 (R (.returned (.bool true)) w3) (∃ (inv : List TV → World → Prop) (mu : List TV → World → Nat), inv [.sl ⟨none, 0, 0⟩, .i .i64 (0 : Int)] w3 ∧ (∀ row : Slc, ∀ i : Int, ∀ w4 : World, inv [.sl row, .i .i64 i] w4 → ∃ j1 : List TV → World → Prop, (condK (decide (i < (order.len : Int))) (j1 [.b (decide ((l.len : Int) > (0 : Int)))] w4) (j1 [.b false] w4)) ∧ (∀ x3 : Bool, ∀ w5 : World, j1 [.b x3] w5 → condK x3 (((0 ≤ i ∧ i < (order.len : Nat)) ∧ onSome order.a fun a => ∃ x4 : Int, Rd w5 (a.add (i.toNat * 1)) [.int .i64 x4] ∧ callK Tryz.prog 19 [.int .i64 x4, .int .i64 (l.len : Int)] w5 (panR R) fun v2 w6 => ∃ x5 : Int, v2 = (.int .i64 x5) ∧ ((0 ≤ x5 ∧ x5 < (l.len : Nat)) ∧ onSome l.a fun a1 => ∃ xa : List UInt8, ∃ xb xc : Int, ∃ xd : Slc, ∃ xe : Bool, ∃ xf xg : Slc, Rd w6 (a1.add (x5.toNat * 7)) [.string ⟨xa.toArray⟩, .int .i64 xb, .int .i64 xc, .slice xd.a xd.len xd.cap, .bool xe, .slice xf.a xf.len xf.cap, .slice xg.a xg.len xg.cap] ∧ semK Tryz.prog (Instr.buildSlice 22 1 #[(0, (.agg #[.string ⟨xa.toArray⟩, .int .i64 xb, .int .i64 xc, .slice xd.a xd.len xd.cap, .bool xe, .slice xf.a xf.len xf.cap, .slice xg.a xg.len xg.cap]))]) w6 fun v3 w7 => ∃ x6 : Slc, v3 = (.slice x6.a x6.len x6.cap) ∧ semK Tryz.prog (Builtin.append_ #[22, 22] 22 #[.slice row.a row.len row.cap, .slice x6.a x6.len x6.cap]) w7 fun v4 w8 => ∃ x7 : Slc, v4 = (.slice x7.a x7.len x7.cap) ∧ (inv [.sl x7, .i .i64 (IntKind.i64.wrap (i + (1 : Int)))] w8 ∧ mu [.sl x7, .i .i64 (IntKind.i64.wrap (i + (1 : Int)))] w8 < mu [.sl row, .i .i64 i] w4)))) (∃ (inv1 : List TV → World → Prop) (mu1 : List TV → World → Nat), inv1 [.sl row, .i .i64 (IntKind.i64.wrap ((l.len : Int) - (1 : Int)))] w5 ∧ (∀ row1 : Slc, ∀ i1 : Int, ∀ w9 : World, inv1 [.sl row1, .i .i64 i1] w9 → condK (decide (i1 ≥ (0 : Int))) (((0 ≤ i1 ∧ i1 < (l.len : Nat)) ∧ onSome l.a fun a2 => ∃ xa1 : List UInt8, ∃ xb1 xc1 : Int, ∃ xd1 : Slc, ∃ xe1 : Bool, ∃ xf1 xg1 : Slc, Rd w9 (a2.add (i1.toNat * 7)) [.string ⟨xa1.toArray⟩, .int .i64 xb1, .int .i64 xc1, .slice xd1.a xd1.len xd1.cap, .bool xe1, .slice xf1.a xf1.len xf1.cap, .slice xg1.a xg1.len xg1.cap] ∧ semK Tryz.prog (Instr.buildSlice 22 1 #[(0, (.agg #[.string ⟨xa1.toArray⟩, .int .i64 xb1, .int .i64 xc1, .slice xd1.a xd1.len xd1.cap, .bool xe1, .slice xf1.a xf1.len xf1.cap, .slice xg1.a xg1.len xg1.cap]))]) w9 fun v5 w10 => ∃ x8 : Slc, v5 = (.slice x8.a x8.len x8.cap) ∧ semK Tryz.prog (Builtin.append_ #[22, 22] 22 #[.slice row1.a row1.len row1.cap, .slice x8.a x8.len x8.cap]) w10 fun v6 w11 => ∃ x9 : Slc, v6 = (.slice x9.a x9.len x9.cap) ∧ (inv1 [.sl x9, .i .i64 (IntKind.i64.wrap (i1 - (1 : Int)))] w11 ∧ mu1 [.sl x9, .i .i64 (IntKind.i64.wrap (i1 - (1 : Int)))] w11 < mu1 [.sl row1, .i .i64 i1] w9))) (callK Tryz.prog 10 [.slice l.a l.len l.cap] w9 (panR R) fun v7 w12 => ∃ x10 : Slc, v7 = (.slice x10.a x10.len x10.cap) ∧ callK Tryz.prog 10 [.slice row1.a row1.len row1.cap] w12 (panR R) fun v8 w13 => ∃ x11 : Slc, v8 = (.slice x11.a x11.len x11.cap) ∧ callK Tryz.prog 12 [.slice x10.a x10.len x10.cap, .slice x11.a x11.len x11.cap] w13 (panR R) fun v9 w14 => ∃ x12 : Bool, v9 = (.bool x12) ∧ condK x12 (callK Tryz.prog 11 [.slice l.a l.len l.cap] w14 (panR R) fun v10 w15 => ∃ x13 : Slc, v10 = (.slice x13.a x13.len x13.cap) ∧ callK Tryz.prog 11 [.slice row1.a row1.len row1.cap] w15 (panR R) fun v11 w16 => ∃ x14 : Slc, v11 = (.slice x14.a x14.len x14.cap) ∧ callK Tryz.prog 14 [.slice x13.a x13.len x13.cap, .slice x14.a x14.len x14.cap] w16 (panR R) fun v12 w17 => ∃ x15 : Bool, v12 = (.bool x15) ∧ R (.returned (.bool x15)) w17) (R (.returned (.bool false)) w14)))))))))
theorem call4 (l order : Slc) {w : World} {R : Ending → World → Prop} (hden : sh4 l order w R) : Calls Tryz.prog 4 #[.slice l.a l.len l.cap, .slice order.a order.len order.cap] w R :=
  calls_of_form (.seq none .z (.seq none (.seq none .z (.cond (.seq none .z .z) .z)) (.seq none (.seq (some [(17, .b)]) .z (.cond (.seq none .z .z) .z)) (.seq none .z (.seq none (.seq none .z (.block none (.loop [(5, .sl), (6, (.i .i64))] (.seq none (.seq (some [(26, .b)]) .z (.cond .z .z)) (.seq none (.block none .z) .z))))) (.seq none (.seq none .z (.block none (.loop [(5, .sl), (7, (.i .i64))] (.seq none (.seq none .z (.cond .z .z)) (.seq none (.block none .z) .z))))) (.seq none .z .z))))))) Tryz.func4 (by kernel_rfl) [.sl l, .sl order] (by kernel_rfl) (by kernel_rfl) hden
def sh7 (w : World) (R : Ending → World → Prop) : Prop :=
  callK Tryz.prog 27 [.string ⟨([107]).toArray⟩, .int .i64 (1 : Int), .int .i64 (1 : Int), .slice none 0 0] w (panR R) fun v w1 => ∃ xa : List UInt8, ∃ xb xc : Int, ∃ xd : Slc, ∃ xe : Bool, ∃ xf xg : Slc, v = (.agg #[.string ⟨xa.toArray⟩, .int .i64 xb, .int .i64 xc, .slice xd.a xd.len xd.cap, .bool xe, .slice xf.a xf.len xf.cap, .slice xg.a xg.len xg.cap]) ∧ callK Tryz.prog 27 [.string ⟨([107]).toArray⟩, .int .i64 (2 : Int), .int .i64 (1 : Int), .slice none 0 0] w1 (panR R) fun v1 w2 => ∃ xa1 : List UInt8, ∃ xb1 xc1 : Int, ∃ xd1 : Slc, ∃ xe1 : Bool, ∃ xf1 xg1 : Slc, v1 = (.agg #[.string ⟨xa1.toArray⟩, .int .i64 xb1, .int .i64 xc1, .slice xd1.a xd1.len xd1.cap, .bool xe1, .slice xf1.a xf1.len xf1.cap, .slice xg1.a xg1.len xg1.cap]) ∧ semK Tryz.prog (Instr.alloc 40 true (.tuple #[])) w2 fun v2 w3 => ∃ a : Option Addr, v2 = (.pointer a) ∧ semK Tryz.prog (Instr.alloc 40 true (.tuple #[])) w3 fun v3 w4 => ∃ b : Option Addr, v3 = (.pointer b) ∧ onSome a fun a1 => semU Tryz.prog (storeVar 40 a1 (.agg #[.string ⟨xa.toArray⟩, .int .i64 xb, .int .i64 xc, .slice xd.a xd.len xd.cap, .bool xe, .slice xf.a xf.len xf.cap, .slice xg.a xg.len xg.cap])) w4 fun w5 => onSome b fun a2 => semU Tryz.prog (storeVar 40 a2 (.agg #[.string ⟨xa1.toArray⟩, .int .i64 xb1, .int .i64 xc1, .slice xd1.a xd1.len xd1.cap, .bool xe1, .slice xf1.a xf1.len xf1.cap, .slice xg1.a xg1.len xg1.cap])) w5 fun w6 => semK Tryz.prog (Instr.buildSlice 37 1 #[(0, (.agg #[.int .i64 (1 : Int), .int .i64 (1 : Int)]))]) w6 fun v4 w7 => ∃ x : Slc, v4 = (.slice x.a x.len x.cap) ∧ callK Tryz.prog 27 [.string ⟨([107]).toArray⟩, .int .i64 (3 : Int), .int .i64 (1 : Int), .slice x.a x.len x.cap] w7 (panR R) fun v5 w8 => ∃ xa2 : List UInt8, ∃ xb2 xc2 : Int, ∃ xd2 : Slc, ∃ xe2 : Bool, ∃ xf2 xg2 : Slc, v5 = (.agg #[.string ⟨xa2.toArray⟩, .int .i64 xb2, .int .i64 xc2, .slice xd2.a xd2.len xd2.cap, .bool xe2, .slice xf2.a xf2.len xf2.cap, .slice xg2.a xg2.len xg2.cap]) ∧ semK Tryz.prog (Instr.alloc 40 true (.tuple #[])) w8 fun v6 w9 => ∃ c : Option Addr, v6 = (.pointer c) ∧ onSome c fun a3 => semU Tryz.prog (storeVar 40 a3 (.agg #[.string ⟨xa2.toArray⟩, .int .i64 xb2, .int .i64 xc2, .slice xd2.a xd2.len xd2.cap, .bool xe2, .slice xf2.a xf2.len xf2.cap, .slice xg2.a xg2.len xg2.cap])) w9 fun w10 => ∃ sx : World → Prop, sx w10.drew ∧ onSome c fun a4 => ∃ xa3 : List UInt8, ∃ xb3 xc3 : Int, ∃ xd3 : Slc, ∃ xe3 : Bool, ∃ xf3 xg3 : Slc, (∀ w', sx w' → Rd w' a4 [.string ⟨xa3.toArray⟩, .int .i64 xb3, .int .i64 xc3, .slice xd3.a xd3.len xd3.cap, .bool xe3, .slice xf3.a xf3.len xf3.cap, .slice xg3.a xg3.len xg3.cap]) ∧ onSome a fun a5 => ∃ xa4 : List UInt8, ∃ xb4 xc4 : Int, ∃ xd4 : Slc, ∃ xe4 : Bool, ∃ xf4 xg4 : Slc, (∀ w', sx w' → Rd w' a5 [.string ⟨xa4.toArray⟩, .int .i64 xb4, .int .i64 xc4, .slice xd4.a xd4.len xd4.cap, .bool xe4, .slice xf4.a xf4.len xf4.cap, .slice xg4.a xg4.len xg4.cap]) ∧ onSome b fun a6 => ∃ xa5 : List UInt8, ∃ xb5 xc5 : Int, ∃ xd5 : Slc, ∃ xe5 : Bool, ∃ xf5 xg5 : Slc, (∀ w', sx w' → Rd w' a6 [.string ⟨xa5.toArray⟩, .int .i64 xb5, .int .i64 xc5, .slice xd5.a xd5.len xd5.cap, .bool xe5, .slice xf5.a xf5.len xf5.cap, .slice xg5.a xg5.len xg5.cap]) ∧ onSome b fun a7 => ∃ xa6 : List UInt8, ∃ xb6 xc6 : Int, ∃ xd6 : Slc, ∃ xe6 : Bool, ∃ xf6 xg6 : Slc, (∀ w', sx w' → Rd w' a7 [.string ⟨xa6.toArray⟩, .int .i64 xb6, .int .i64 xc6, .slice xd6.a xd6.len xd6.cap, .bool xe6, .slice xf6.a xf6.len xf6.cap, .slice xg6.a xg6.len xg6.cap]) ∧ onSome c fun a8 => ∃ xa7 : List UInt8, ∃ xb7 xc7 : Int, ∃ xd7 : Slc, ∃ xe7 : Bool, ∃ xf7 xg7 : Slc, (∀ w', sx w' → Rd w' a8 [.string ⟨xa7.toArray⟩, .int .i64 xb7, .int .i64 xc7, .slice xd7.a xd7.len xd7.cap, .bool xe7, .slice xf7.a xf7.len xf7.cap, .slice xg7.a xg7.len xg7.cap]) ∧ ((semK Tryz.prog (Instr.buildSlice 22 3 #[(0, (.agg #[.string ⟨xa3.toArray⟩, .int .i64 xb3, .int .i64 xc3, .slice xd3.a xd3.len xd3.cap, .bool xe3, .slice xf3.a xf3.len xf3.cap, .slice xg3.a xg3.len xg3.cap])), (1, (.agg #[.string ⟨xa4.toArray⟩, .int .i64 xb4, .int .i64 xc4, .slice xd4.a xd4.len xd4.cap, .bool xe4, .slice xf4.a xf4.len xf4.cap, .slice xg4.a xg4.len xg4.cap])), (2, (.agg #[.string ⟨xa5.toArray⟩, .int .i64 xb5, .int .i64 xc5, .slice xd5.a xd5.len xd5.cap, .bool xe5, .slice xf5.a xf5.len xf5.cap, .slice xg5.a xg5.len xg5.cap]))]) w10.drew fun v7 w11 => ∃ x1 : Slc, v7 = (.slice x1.a x1.len x1.cap) ∧ (sx w11 ∧ ((callK Tryz.prog 11 [.slice x1.a x1.len x1.cap] w11 (panR R) fun v8 w12 => ∃ x2 : Slc, v8 = (.slice x2.a x2.len x2.cap) ∧ (sx w12 ∧ ((semK Tryz.prog (Instr.buildSlice 22 2 #[(0, (.agg #[.string ⟨xa6.toArray⟩, .int .i64 xb6, .int .i64 xc6, .slice xd6.a xd6.len xd6.cap, .bool xe6, .slice xf6.a xf6.len xf6.cap, .slice xg6.a xg6.len xg6.cap])), (1, (.agg #[.string ⟨xa7.toArray⟩, .int .i64 xb7, .int .i64 xc7, .slice xd7.a xd7.len xd7.cap, .bool xe7, .slice xf7.a xf7.len xf7.cap, .slice xg7.a xg7.len xg7.cap]))]) w12 fun v9 w13 => ∃ x3 : Slc, v9 = (.slice x3.a x3.len x3.cap) ∧ (sx w13 ∧ ((callK Tryz.prog 14 [.slice x2.a x2.len x2.cap, .slice x3.a x3.len x3.cap] w13 (panR R) fun v10 w14 => ∃ x4 : Bool, v10 = (.bool x4) ∧ (sx w14 ∧ condK x4 (onSome a fun a9 => ∃ xa8 : List UInt8, ∃ xb8 xc8 : Int, ∃ xd8 : Slc, ∃ xe8 : Bool, ∃ xf8 xg8 : Slc, (∀ w', sx w' → Rd w' a9 [.string ⟨xa8.toArray⟩, .int .i64 xb8, .int .i64 xc8, .slice xd8.a xd8.len xd8.cap, .bool xe8, .slice xf8.a xf8.len xf8.cap, .slice xg8.a xg8.len xg8.cap]) ∧ onSome b fun a10 => ∃ xa9 : List UInt8, ∃ xb9 xc9 : Int, ∃ xd9 : Slc, ∃ xe9 : Bool, ∃ xf9 xg9 : Slc, (∀ w', sx w' → Rd w' a10 [.string ⟨xa9.toArray⟩, .int .i64 xb9, .int .i64 xc9, .slice xd9.a xd9.len xd9.cap, .bool xe9, .slice xf9.a xf9.len xf9.cap, .slice xg9.a xg9.len xg9.cap]) ∧ onSome c fun a11 => ∃ xa10 : List UInt8, ∃ xb10 xc10 : Int, ∃ xd10 : Slc, ∃ xe10 : Bool, ∃ xf10 xg10 : Slc, (∀ w', sx w' → Rd w' a11 [.string ⟨xa10.toArray⟩, .int .i64 xb10, .int .i64 xc10, .slice xd10.a xd10.len xd10.cap, .bool xe10, .slice xf10.a xf10.len xf10.cap, .slice xg10.a xg10.len xg10.cap]) ∧ ((semK Tryz.prog (Instr.buildSlice 22 3 #[(0, (.agg #[.string ⟨xa8.toArray⟩, .int .i64 xb8, .int .i64 xc8, .slice xd8.a xd8.len xd8.cap, .bool xe8, .slice xf8.a xf8.len xf8.cap, .slice xg8.a xg8.len xg8.cap])), (1, (.agg #[.string ⟨xa9.toArray⟩, .int .i64 xb9, .int .i64 xc9, .slice xd9.a xd9.len xd9.cap, .bool xe9, .slice xf9.a xf9.len xf9.cap, .slice xg9.a xg9.len xg9.cap])), (2, (.agg #[.string ⟨xa10.toArray⟩, .int .i64 xb10, .int .i64 xc10, .slice xd10.a xd10.len xd10.cap, .bool xe10, .slice xf10.a xf10.len xf10.cap, .slice xg10.a xg10.len xg10.cap]))]) w14 fun v11 w15 => ∃ x5 : Slc, v11 = (.slice x5.a x5.len x5.cap) ∧ (sx w15 ∧ ((callK Tryz.prog 10 [.slice x5.a x5.len x5.cap] w15 (panR R) fun v12 w16 => ∃ x6 : Slc, v12 = (.slice x6.a x6.len x6.cap) ∧ (sx w16 ∧ R (.returned (.bool ((x6.len : Int) == (1 : Int)))) w16)) ∧ True))) ∧ True)) ((((sx w14 ∧ (((sx w14 ∧ R (.returned (.bool false)) w14)) ∧ True))) ∧ True)))) ∧ True))) ∧ True))) ∧ (semK Tryz.prog (Instr.buildSlice 22 2 #[(0, (.agg #[.string ⟨xa6.toArray⟩, .int .i64 xb6, .int .i64 xc6, .slice xd6.a xd6.len xd6.cap, .bool xe6, .slice xf6.a xf6.len xf6.cap, .slice xg6.a xg6.len xg6.cap])), (1, (.agg #[.string ⟨xa7.toArray⟩, .int .i64 xb7, .int .i64 xc7, .slice xd7.a xd7.len xd7.cap, .bool xe7, .slice xf7.a xf7.len xf7.cap, .slice xg7.a xg7.len xg7.cap]))]) w11 fun v13 w17 => ∃ x7 : Slc, v13 = (.slice x7.a x7.len x7.cap) ∧ (sx w17 ∧ ((callK Tryz.prog 11 [.slice x1.a x1.len x1.cap] w17 (panR R) fun v14 w18 => ∃ x8 : Slc, v14 = (.slice x8.a x8.len x8.cap) ∧ (sx w18 ∧ ((callK Tryz.prog 14 [.slice x8.a x8.len x8.cap, .slice x7.a x7.len x7.cap] w18 (panR R) fun v15 w19 => ∃ x9 : Bool, v15 = (.bool x9) ∧ (sx w19 ∧ condK x9 (onSome a fun a12 => ∃ xa11 : List UInt8, ∃ xb11 xc11 : Int, ∃ xd11 : Slc, ∃ xe11 : Bool, ∃ xf11 xg11 : Slc, (∀ w', sx w' → Rd w' a12 [.string ⟨xa11.toArray⟩, .int .i64 xb11, .int .i64 xc11, .slice xd11.a xd11.len xd11.cap, .bool xe11, .slice xf11.a xf11.len xf11.cap, .slice xg11.a xg11.len xg11.cap]) ∧ onSome b fun a13 => ∃ xa12 : List UInt8, ∃ xb12 xc12 : Int, ∃ xd12 : Slc, ∃ xe12 : Bool, ∃ xf12 xg12 : Slc, (∀ w', sx w' → Rd w' a13 [.string ⟨xa12.toArray⟩, .int .i64 xb12, .int .i64 xc12, .slice xd12.a xd12.len xd12.cap, .bool xe12, .slice xf12.a xf12.len xf12.cap, .slice xg12.a xg12.len xg12.cap]) ∧ onSome c fun a14 => ∃ xa13 : List UInt8, ∃ xb13 xc13 : Int, ∃ xd13 : Slc, ∃ xe13 : Bool, ∃ xf13 xg13 : Slc, (∀ w', sx w' → Rd w' a14 [.string ⟨xa13.toArray⟩, .int .i64 xb13, .int .i64 xc13, .slice xd13.a xd13.len xd13.cap, .bool xe13, .slice xf13.a xf13.len xf13.cap, .slice xg13.a xg13.len xg13.cap]) ∧ ((semK Tryz.prog (Instr.buildSlice 22 3 #[(0, (.agg #[.string ⟨xa11.toArray⟩, .int .i64 xb11, .int .i64 xc11, .slice xd11.a xd11.len xd11.cap, .bool xe11, .slice xf11.a xf11.len xf11.cap, .slice xg11.a xg11.len xg11.cap])), (1, (.agg #[.string ⟨xa12.toArray⟩, .int .i64 xb12, .int .i64 xc12, .slice xd12.a xd12.len xd12.cap, .bool xe12, .slice xf12.a xf12.len xf12.cap, .slice xg12.a xg12.len xg12.cap])), (2, (.agg #[.string ⟨xa13.toArray⟩, .int .i64 xb13, .int .i64 xc13, .slice xd13.a xd13.len xd13.cap, .bool xe13, .slice xf13.a xf13.len xf13.cap, .slice xg13.a xg13.len xg13.cap]))]) w19 fun v16 w20 => ∃ x10 : Slc, v16 = (.slice x10.a x10.len x10.cap) ∧ (sx w20 ∧ ((callK Tryz.prog 10 [.slice x10.a x10.len x10.cap] w20 (panR R) fun v17 w21 => ∃ x11 : Slc, v17 = (.slice x11.a x11.len x11.cap) ∧ (sx w21 ∧ R (.returned (.bool ((x11.len : Int) == (1 : Int)))) w21)) ∧ True))) ∧ True)) ((((sx w19 ∧ (((sx w19 ∧ R (.returned (.bool false)) w19)) ∧ True))) ∧ True)))) ∧ True))) ∧ True))) ∧ True))) ∧ (semK Tryz.prog (Instr.buildSlice 22 2 #[(0, (.agg #[.string ⟨xa6.toArray⟩, .int .i64 xb6, .int .i64 xc6, .slice xd6.a xd6.len xd6.cap, .bool xe6, .slice xf6.a xf6.len xf6.cap, .slice xg6.a xg6.len xg6.cap])), (1, (.agg #[.string ⟨xa7.toArray⟩, .int .i64 xb7, .int .i64 xc7, .slice xd7.a xd7.len xd7.cap, .bool xe7, .slice xf7.a xf7.len xf7.cap, .slice xg7.a xg7.len xg7.cap]))]) w10.drew fun v18 w22 => ∃ x12 : Slc, v18 = (.slice x12.a x12.len x12.cap) ∧ (sx w22 ∧ ((semK Tryz.prog (Instr.buildSlice 22 3 #[(0, (.agg #[.string ⟨xa3.toArray⟩, .int .i64 xb3, .int .i64 xc3, .slice xd3.a xd3.len xd3.cap, .bool xe3, .slice xf3.a xf3.len xf3.cap, .slice xg3.a xg3.len xg3.cap])), (1, (.agg #[.string ⟨xa4.toArray⟩, .int .i64 xb4, .int .i64 xc4, .slice xd4.a xd4.len xd4.cap, .bool xe4, .slice xf4.a xf4.len xf4.cap, .slice xg4.a xg4.len xg4.cap])), (2, (.agg #[.string ⟨xa5.toArray⟩, .int .i64 xb5, .int .i64 xc5, .slice xd5.a xd5.len xd5.cap, .bool xe5, .slice xf5.a xf5.len xf5.cap, .slice xg5.a xg5.len xg5.cap]))]) w22 fun v19 w23 => ∃ x13 : Slc, v19 = (.slice x13.a x13.len x13.cap) ∧ (sx w23 ∧ ((callK Tryz.prog 11 [.slice x13.a x13.len x13.cap] w23 (panR R) fun v20 w24 => ∃ x14 : Slc, v20 = (.slice x14.a x14.len x14.cap) ∧ (sx w24 ∧ ((callK Tryz.prog 14 [.slice x14.a x14.len x14.cap, .slice x12.a x12.len x12.cap] w24 (panR R) fun v21 w25 => ∃ x15 : Bool, v21 = (.bool x15) ∧ (sx w25 ∧ condK x15 (onSome a fun a15 => ∃ xa14 : List UInt8, ∃ xb14 xc14 : Int, ∃ xd14 : Slc, ∃ xe14 : Bool, ∃ xf14 xg14 : Slc, (∀ w', sx w' → Rd w' a15 [.string ⟨xa14.toArray⟩, .int .i64 xb14, .int .i64 xc14, .slice xd14.a xd14.len xd14.cap, .bool xe14, .slice xf14.a xf14.len xf14.cap, .slice xg14.a xg14.len xg14.cap]) ∧ onSome b fun a16 => ∃ xa15 : List UInt8, ∃ xb15 xc15 : Int, ∃ xd15 : Slc, ∃ xe15 : Bool, ∃ xf15 xg15 : Slc, (∀ w', sx w' → Rd w' a16 [.string ⟨xa15.toArray⟩, .int .i64 xb15, .int .i64 xc15, .slice xd15.a xd15.len xd15.cap, .bool xe15, .slice xf15.a xf15.len xf15.cap, .slice xg15.a xg15.len xg15.cap]) ∧ onSome c fun a17 => ∃ xa16 : List UInt8, ∃ xb16 xc16 : Int, ∃ xd16 : Slc, ∃ xe16 : Bool, ∃ xf16 xg16 : Slc, (∀ w', sx w' → Rd w' a17 [.string ⟨xa16.toArray⟩, .int .i64 xb16, .int .i64 xc16, .slice xd16.a xd16.len xd16.cap, .bool xe16, .slice xf16.a xf16.len xf16.cap, .slice xg16.a xg16.len xg16.cap]) ∧ ((semK Tryz.prog (Instr.buildSlice 22 3 #[(0, (.agg #[.string ⟨xa14.toArray⟩, .int .i64 xb14, .int .i64 xc14, .slice xd14.a xd14.len xd14.cap, .bool xe14, .slice xf14.a xf14.len xf14.cap, .slice xg14.a xg14.len xg14.cap])), (1, (.agg #[.string ⟨xa15.toArray⟩, .int .i64 xb15, .int .i64 xc15, .slice xd15.a xd15.len xd15.cap, .bool xe15, .slice xf15.a xf15.len xf15.cap, .slice xg15.a xg15.len xg15.cap])), (2, (.agg #[.string ⟨xa16.toArray⟩, .int .i64 xb16, .int .i64 xc16, .slice xd16.a xd16.len xd16.cap, .bool xe16, .slice xf16.a xf16.len xf16.cap, .slice xg16.a xg16.len xg16.cap]))]) w25 fun v22 w26 => ∃ x16 : Slc, v22 = (.slice x16.a x16.len x16.cap) ∧ (sx w26 ∧ ((callK Tryz.prog 10 [.slice x16.a x16.len x16.cap] w26 (panR R) fun v23 w27 => ∃ x17 : Slc, v23 = (.slice x17.a x17.len x17.cap) ∧ (sx w27 ∧ R (.returned (.bool ((x17.len : Int) == (1 : Int)))) w27)) ∧ True))) ∧ True)) ((((sx w25 ∧ (((sx w25 ∧ R (.returned (.bool false)) w25)) ∧ True))) ∧ True)))) ∧ True))) ∧ True))) ∧ True))) ∧ True)
theorem call7 {w : World} {R : Ending → World → Prop} (hden : sh7 w R) : Calls Tryz.prog 7 #[] w R :=
  calls_of_form (.seq none .z (.seq none .z (.seq none .z (.seq none (.draw 1 (.take 0 (.take 1 (.take 2 (.take 5 (.take 6 (.all [(3, (.all [(4, (.all [(7, (.all [(8, (.take 9 (.take 10 (.take 11 (.take 12 (.all [(13, (.all [(14, (.take 15 (.take 16 (.take 17 (.take 18 .done)))))]))]))))))]))])), (7, (.all [(4, (.all [(8, (.take 9 (.take 10 (.take 11 (.take 12 (.all [(13, (.all [(14, (.take 15 (.take 16 (.take 17 (.take 18 .done)))))]))]))))))]))]))])), (7, (.all [(3, (.all [(4, (.all [(8, (.take 9 (.take 10 (.take 11 (.take 12 (.all [(13, (.all [(14, (.take 15 (.take 16 (.take 17 (.take 18 .done)))))]))]))))))]))]))]))]))))))) .z)))) Tryz.func7 (by kernel_rfl) [] (by kernel_rfl) (by kernel_rfl) hden
def sh8 (l : Slc) (w : World) (R : Ending → World → Prop) : Prop :=
  ∃ (inv : List TV → World → Prop) (mu : List TV → World → Nat), inv [.i .i64 (0 : Int)] w ∧ (∀ i : Int, ∀ w1 : World, inv [.i .i64 i] w1 → ∃ j : List TV → World → Prop, (condK (decide (i < (l.len : Int))) (j [.b (decide (i < (17 : Int)))] w1) (j [.b false] w1)) ∧ (∀ x : Bool, ∀ w2 : World, j [.b x] w2 → condK x (((0 ≤ i ∧ i < (l.len : Nat)) ∧ onSome l.a fun a => ∃ x1 : List UInt8, Rd w2 ((a.add (i.toNat * 7)).add 0) [.string ⟨x1.toArray⟩] ∧ condK (decide ((x1.length : Int) > (200 : Int))) (R (.returned (.bool false)) w2) (((0 ≤ i ∧ i < (l.len : Nat)) ∧ onSome l.a fun a1 => ∃ x2 : Slc, Rd w2 ((a1.add (i.toNat * 7)).add 5) [.slice x2.a x2.len x2.cap] ∧ condK (decide ((x2.len : Int) > (2000 : Int))) (R (.returned (.bool false)) w2) (((0 ≤ i ∧ i < (l.len : Nat)) ∧ onSome l.a fun a2 => ∃ x3 : Slc, Rd w2 ((a2.add (i.toNat * 7)).add 3) [.slice x3.a x3.len x3.cap] ∧ condK (decide ((x3.len : Int) > (50 : Int))) (R (.returned (.bool false)) w2) (((0 ≤ i ∧ i < (l.len : Nat)) ∧ onSome l.a fun a3 => ∃ x4 : Slc, Rd w2 ((a3.add (i.toNat * 7)).add 6) [.slice x4.a x4.len x4.cap] ∧ condK (decide ((x4.len : Int) > (200 : Int))) (R (.returned (.bool false)) w2) ((inv [.i .i64 (IntKind.i64.wrap (i + (1 : Int)))] w2 ∧ mu [.i .i64 (IntKind.i64.wrap (i + (1 : Int)))] w2 < mu [.i .i64 i] w1)))))))))) (R (.returned (.bool (decide ((l.len : Int) ≤ (16 : Int))))) w2)))
theorem call8 (l : Slc) {w : World} {R : Ending → World → Prop} (hden : sh8 l w R) : Calls Tryz.prog 8 #[.slice l.a l.len l.cap] w R :=
  calls_of_form (.seq none .z (.seq none (.seq none .z (.block none (.loop [(3, (.i .i64))] (.seq none (.seq (some [(11, .b)]) .z (.cond .z .z)) (.seq none (.block none (.seq none .z (.cond (.seq none .z .z) .z))) .z))))) (.seq none .z .z))) Tryz.func8 (by kernel_rfl) [.sl l] (by kernel_rfl) (by kernel_rfl) hden
def sh27 (key : List UInt8) (client seq : Int) (context : Slc) (w : World) (R : Ending → World → Prop) : Prop :=
  semK Tryz.prog (Instr.alloc 40 true (.tuple #[])) w fun v w1 => ∃ x : Option Addr, v = (.pointer x) ∧ callK Tryz.prog 56 [.int .i64 client] w1 (panR R) fun v1 w2 => ∃ x1 : Slc, v1 = (.slice x1.a x1.len x1.cap) ∧ callK Tryz.prog 55 [.slice x1.a x1.len x1.cap, .agg #[.string ⟨key.toArray⟩, .int .i64 client, .int .i64 seq, .slice context.a context.len context.cap, .bool false, .slice none 0 0, .slice none 0 0]] w2 (panR R) fun v2 w3 => ∃ xaa : List UInt8, ∃ xab xac : Int, ∃ xad : Slc, ∃ xae : Bool, ∃ xaf xag : Slc, ∃ xb : Int, v2 = (.tuple #[.agg #[.string ⟨xaa.toArray⟩, .int .i64 xab, .int .i64 xac, .slice xad.a xad.len xad.cap, .bool xae, .slice xaf.a xaf.len xaf.cap, .slice xag.a xag.len xag.cap], .int .i64 xb]) ∧ semK Tryz.prog (Instr.alloc 40 true (.tuple #[])) w3 fun v3 w4 => ∃ r : Option Addr, v3 = (.pointer r) ∧ onSome r fun a => semU Tryz.prog (storeVar 40 a (.agg #[.string ⟨xaa.toArray⟩, .int .i64 xab, .int .i64 xac, .slice xad.a xad.len xad.cap, .bool xae, .slice xaf.a xaf.len xaf.cap, .slice xag.a xag.len xag.cap])) w4 fun w5 => onSome r fun a1 => ∃ xa : List UInt8, ∃ xb1 xc : Int, ∃ xd : Slc, ∃ xe : Bool, ∃ xf xg : Slc, Rd w5 a1 [.string ⟨xa.toArray⟩, .int .i64 xb1, .int .i64 xc, .slice xd.a xd.len xd.cap, .bool xe, .slice xf.a xf.len xf.cap, .slice xg.a xg.len xg.cap] ∧ onSome x fun a2 => semU Tryz.prog (storeVar 40 a2 (.agg #[.string ⟨xa.toArray⟩, .int .i64 xb1, .int .i64 xc, .slice xd.a xd.len xd.cap, .bool xe, .slice xf.a xf.len xf.cap, .slice xg.a xg.len xg.cap])) w5 fun w6 => onSome x fun a3 => ∃ xa1 : List UInt8, ∃ xb2 xc1 : Int, ∃ xd1 : Slc, ∃ xe1 : Bool, ∃ xf1 xg1 : Slc, Rd w6 a3 [.string ⟨xa1.toArray⟩, .int .i64 xb2, .int .i64 xc1, .slice xd1.a xd1.len xd1.cap, .bool xe1, .slice xf1.a xf1.len xf1.cap, .slice xg1.a xg1.len xg1.cap] ∧ R (.returned (.agg #[.string ⟨xa1.toArray⟩, .int .i64 xb2, .int .i64 xc1, .slice xd1.a xd1.len xd1.cap, .bool xe1, .slice xf1.a xf1.len xf1.cap, .slice xg1.a xg1.len xg1.cap])) w6
theorem call27 (key : List UInt8) (client seq : Int) (context : Slc) {w : World} {R : Ending → World → Prop} (hden : sh27 key client seq context w R) : Calls Tryz.prog 27 #[.string ⟨key.toArray⟩, .int .i64 client, .int .i64 seq, .slice context.a context.len context.cap] w R :=
  calls_of_form (.seq none .z (.seq none .z (.seq none .z .z))) Tryz.func27 (by kernel_rfl) [.s key, .i .i64 client, .i .i64 seq, .sl context] (by kernel_rfl) (by kernel_rfl) hden
def sh56 (client : Int) (w : World) (R : Ending → World → Prop) : Prop :=
  semK Tryz.prog (Instr.makeSlice 38 (.int .i64 (32 : Int)) (.int .i64 (32 : Int))) w fun v w1 => ∃ x : Slc, v = (.slice x.a x.len x.cap) ∧ ∃ (inv : List TV → World → Prop) (mu : List TV → World → Nat), inv [.i .i64 (0 : Int)] w1 ∧ (∀ i : Int, ∀ w2 : World, inv [.i .i64 i] w2 → condK (decide (i < (32 : Int))) (((0 ≤ i ∧ i < (x.len : Nat)) ∧ onSome x.a fun a => semU Tryz.prog (storeVar 5 (a.add (i.toNat * 1)) (.int .u8 ((u8OfInt (IntKind.i64.wrap ((IntKind.i64.wrap (client * (7 : Int))) + i)))).toNat)) w2 fun w3 => (inv [.i .i64 (IntKind.i64.wrap (i + (1 : Int)))] w3 ∧ mu [.i .i64 (IntKind.i64.wrap (i + (1 : Int)))] w3 < mu [.i .i64 i] w2))) (R (.returned (.slice x.a x.len x.cap)) w2))
theorem call56 (client : Int) {w : World} {R : Ending → World → Prop} (hden : sh56 client w R) : Calls Tryz.prog 56 #[.int .i64 client] w R :=
  calls_of_form (.seq none .z (.seq none .z (.seq none (.seq none .z (.block none (.loop [(4, (.i .i64))] (.seq none (.seq none .z (.cond .z .z)) (.seq none (.block none .z) .z))))) (.seq none .z .z)))) Tryz.func56 (by kernel_rfl) [.i .i64 client] (by kernel_rfl) (by kernel_rfl) hden
end Go.Proofs.YthaefcgpbccmbaaGreatDoor
end
section
namespace Go.Proofs.YthaefcgpbccmbaaGreatDoor
open Go Go.Sh Go.MapKept
section
variable {w : World}
theorem c_seed {client : Int} : Calls Tryz.prog 56 #[.int .i64 client] w (Ret (RN 32 w)) := by
  refine call56 _ ?_
  unfold sh56
  obtain ⟨i5', h51, h52, h53, h54⟩ := i5
  refine sem_makeSlice (l := 32) (c := 32) u26 h51 h52 h53 rfl h54 rfl rfl (by omega) (by omega) (by omega) fun e w1 hN1 hb1 ho1 => ⟨⟨some ⟨e, 0, none⟩, 32, 32⟩, rfl, ?_⟩
  rw [bys_rep] at ho1
  have hat := hN1.at_
  refine ⟨fun l' w' => match l' with | [.i _ x] => ∃ (k : Nat) (l : List UInt8), x = k ∧ l.length = 32 ∧ Sh.Own w' ⟨some ⟨e, 0, none⟩, 32, 32⟩ 1 (bys l) ∧ Mod NoB w w' | _ => False, fun l' _ => match l' with | [.i _ x] => (32 - x).toNat | _ => 0,
    ⟨0, List.replicate 32 0, rfl, by simp, ho1, hN1.mod⟩, ?_⟩
  rintro x w2 ⟨k, l, rfl, hl, ho2, hm2⟩
  refine condK_i (fun hlt => ?_) fun hge => ?_
  · have hk : k < 32 := by have := of_decide_eq_true hlt; omega
    refine ⟨⟨by omega, by show (k : Int) < ((32 : Nat) : Int); omega⟩, ?_⟩
    simp only [Int.toNat_natCast]
    refine semU_own1 (by kernel_rfl) (by kernel_rfl) rfl ho2 rfl hk fun w3 ho3 hm3 hs3 => ⟨⟨k + 1, _, wrap_nat (by omega), ?_, by rw [bys_set] at ho3; exact ho3, hm2.fresh hm3 fun z hz => ?_⟩, ?_⟩
    · simp [hl]
    · rw [Slc.blk_mk, if_neg (by omega)] at hz; cases hz; omega
    · rw [wrap_nat (by omega)]; (try simp only []); omega
  · exact ⟨⟨some ⟨e, 0, none⟩, 32, 32⟩, l, rfl, ho2, hl, FB.new (by omega), hm2⟩
theorem c_lwrite {key : List UInt8} {cl sq : Int} {ctx : Slc} {cx : List (Int × Int)} (hg : GlobS w) (hc : SlRd w ctx 2 (dts cx)) (hcl : ∀ z, ctx.blk = some z → z < w.heap.size)
    (hk : key.length ≤ 1000000) (hcx : cx.length ≤ 1000000) (hsh : Rc.shaped ⟨key, cl, sq, cx, false, [], []⟩ = true) :
    Calls Tryz.prog 27 #[.string ⟨key.toArray⟩, .int .i64 cl, .int .i64 sq, .slice ctx.a ctx.len ctx.cap] w (Ret fun v w' => ∃ (h' : Hd) (sg : List UInt8), v = h'.val ∧ HdAt w' h' ⟨key, cl, sq, cx, false, [], sg⟩ ∧ sg.length = 64 ∧ HdNew w h' ∧ Mod NoB w w') := by
  refine call27 _ _ _ _ ?_
  unfold sh27
  obtain ⟨ir, hr1, hr2, hr3, hr4⟩ := iRec
  refine sem_alloc (l := Hd.cells ⟨[], 0, 0, ⟨none, 0, 0⟩, false, ⟨none, 0, 0⟩, ⟨none, 0, 0⟩⟩) hr1 hr2 rfl fun x w1 hN1 hb1 => ⟨_, rfl, ?_⟩
  refine callN c_seed fun s l w2 hos hl hfs hm2 => ?_
  have hM2 := hN1.mod.tr hm2
  have H : HdAt w2 ⟨key, cl, sq, ctx, false, ⟨none, 0, 0⟩, ⟨none, 0, 0⟩⟩ ⟨key, cl, sq, cx, false, [], []⟩ :=
    ⟨rfl, rfl, rfl, rfl, hc.no hM2, rd_nil _ _, rd_nil _ _, ⟨hk, hcx, by simp, by simp⟩, fun z hz => by
      rcases hz with hz | hz | hz
      · exact Nat.lt_of_lt_of_le (hcl z hz) hM2.size
      · simp at hz
      · simp at hz⟩
  refine callK_ret (c_Seal (h := ⟨key, cl, sq, ctx, false, ⟨none, 0, 0⟩, ⟨none, 0, 0⟩⟩) (hg.no hM2) hos.rd (fun z hz => hos.lt hz) hl H hsh) ?_
  rintro v w3 ⟨h', sg, rfl, H', hsg, hnew, hm3⟩
  refine ⟨h'.a, h'.b, h'.c, h'.d, h'.e, h'.f, h'.g, 0, rfl, ?_⟩
  refine sem_alloc (l := Hd.cells ⟨[], 0, 0, ⟨none, 0, 0⟩, false, ⟨none, 0, 0⟩, ⟨none, 0, 0⟩⟩) hr1 hr2 rfl fun r w4 hN4 hb4 => ⟨_, rfl, ?_⟩
  have hM3 := hM2.tr hm3
  have s1 := hN1.size; have a1 := hN1.at_; have a4 := hN4.at_; have s3 := hM3.size; have s23 := (hm2.tr hm3).size; have s4 := hN4.size
  refine semU_hd (h := h') (by kernel_rfl) (by kernel_rfl) hb4 rfl fun w5 ht5 hb5 => ?_
  have hm5 : Mod NoB w3 w5 := hN4.mod.fresh ht5.mod fun z e => by omega
  refine ⟨h'.a, h'.b, h'.c, h'.d, h'.e, h'.f, h'.g, rdH hb5, ?_⟩
  have hx5 := (hb1.no (hm2.tr (hm3.tr hm5)))
  refine semU_hd (h := h') (by kernel_rfl) (by kernel_rfl) hx5 rfl fun w6 ht6 hb6 => ?_
  refine ⟨h'.a, h'.b, h'.c, h'.d, h'.e, h'.f, h'.g, rdH hb6, h', sg, rfl, (H'.no hm5).mod ht6.mod fun z hz e => ?_, hsg, fun z hz => ?_, (hM3.tr hm5).fresh ht6.mod fun z e => by omega⟩
  · have := hnew z hz; have := hM2.size; have := hm2.size; omega
  · have := hnew z hz; have := hM2.size; omega
end
def lim (r : Rc) : Prop := r.key.length ≤ 200 ∧ r.val.length ≤ 2000 ∧ r.ctx.length ≤ 50 ∧ r.sig.length ≤ 200
def lightQ (l : List Rc) : Prop := l.length ≤ 16 ∧ ∀ r ∈ l, lim r
theorem rd_fld {w : World} {a : Addr} {vs : List Value} {j : Nat} {v : Value} (h : Rd w a vs) (hj : vs[j]? = some v) : Rd w (a.add j) [v] := rd1_iff.2 (h j v hj)
theorem c_light {w : World} {s : Slc} {ls : List Rc} (hl : RecsIn w s ls) (hn : s.len ≤ 9000000000000000000) :
    Calls Tryz.prog 8 #[.slice s.a s.len s.cap] w (Ret fun v w' => ∃ b, v = .bool b ∧ (b = true → lightQ ls) ∧ w' = w) := by
  refine call8 _ ?_
  unfold sh8
  have hlen := hl.len
  obtain ⟨hs, g1, g2, g3, g4⟩ := hl
  refine ⟨fun l' w' => match l' with | [.i _ x] => ∃ k : Nat, x = k ∧ k ≤ 17 ∧ k ≤ ls.length ∧ (∀ r ∈ ls.take k, lim r) ∧ w' = w | _ => False, fun l' _ => match l' with | [.i _ x] => (17 - x).toNat | _ => 0, ⟨0, rfl, by omega, by omega, by simp, rfl⟩, ?_⟩
  rintro x w1 ⟨k, rfl, hk, hkl, hk2, rfl⟩
  refine ⟨fun l' w' => match l' with | [.b t] => t = decide (k < ls.length ∧ k < 17) ∧ w' = w1 | _ => False, condK_i (fun h => ⟨?_, rfl⟩) (fun h => ⟨?_, rfl⟩), ?_⟩
  · have := of_decide_eq_true h
    exact decide_eq_decide.2 ⟨fun _ => ⟨by omega, by omega⟩, fun _ => by omega⟩
  · have := of_decide_eq_false h
    exact (decide_eq_false (by omega)).symm
  · rintro x w2 ⟨rfl, rfl⟩
    refine condK_i (fun h => ?_) fun h => ?_
    · have h := of_decide_eq_true h
      have hk' : k < hs.length := by omega
      obtain ⟨A, ea, hrd⟩ := rd_flat Hd.len (by omega) g1 hk'
      have H := g4 k hk' (by omega)
      have hc := rd_lenD H.ctx
      have hv := rd_len8 H.val
      have hg := rd_len8 H.sig
      rw [ea]
      refine ⟨⟨by omega, by omega⟩, hs[k].a, rd_fld (j := 0) hrd rfl, condK_i (fun h1 => ⟨false, rfl, (fun h => by cases h), rfl⟩) fun h1 => ?_⟩
      have h1 := of_decide_eq_false h1
      refine ⟨⟨by omega, by omega⟩, hs[k].f, rd_fld (j := 5) hrd rfl, condK_i (fun h2 => ⟨false, rfl, (fun h => by cases h), rfl⟩) fun h2 => ?_⟩
      have h2 := of_decide_eq_false h2
      refine ⟨⟨by omega, by omega⟩, hs[k].d, rd_fld (j := 3) hrd rfl, condK_i (fun h3 => ⟨false, rfl, (fun h => by cases h), rfl⟩) fun h3 => ?_⟩
      have h3 := of_decide_eq_false h3
      refine ⟨⟨by omega, by omega⟩, hs[k].g, rd_fld (j := 6) hrd rfl, condK_i (fun h4 => ⟨false, rfl, (fun h => by cases h), rfl⟩) fun h4 => ?_⟩
      have h4 := of_decide_eq_false h4
      refine ⟨⟨k + 1, wrap_nat (by omega), by omega, by omega, fun r hr => ?_, rfl⟩, ?_⟩
      · rw [take_snoc (show k < ls.length by omega)] at hr
        rcases List.mem_append.1 hr with hr | hr
        · exact hk2 r hr
        · simp at hr; subst hr
          rw [H.key] at h1
          exact ⟨by omega, by omega, by omega, by omega⟩
      · rw [wrap_nat (by omega)]; (try simp only []); omega
    · have h := of_decide_eq_false h
      refine ⟨_, rfl, fun hb => ?_, rfl⟩
      have hb := of_decide_eq_true hb
      rw [List.take_of_length_le (by omega)] at hk2
      exact ⟨by omega, hk2⟩
theorem RecsIn.at {w : World} {s : Slc} {ls : List Rc} (h : RecsIn w s ls) (hq : lightQ ls) : RecsAt w.heap.size w s ls := by
  obtain ⟨hs, h1, h2, h3, h4⟩ := h
  refine ⟨hs, h1, h2, h3, fun i a b => ⟨(h4 i a b).at ?_, fun z hz => (h4 i a b).lt z hz⟩⟩
  have := hq.2 ls[i] (List.getElem_mem _)
  exact ⟨by have := this.1; omega, by have := this.2.2.1; omega, by have := this.2.1; omega, by have := this.2.2.2; omega⟩
end Go.Proofs.YthaefcgpbccmbaaGreatDoor
end
section
namespace Go.Sh
def exA (s : List UInt8) : Rc := ⟨[107], 1, 1, [], false, [], s⟩
def exB (s : List UInt8) : Rc := ⟨[107], 2, 1, [], false, [], s⟩
def exC (s : List UInt8) : Rc := ⟨[107], 3, 1, [(1, 1)], false, [], s⟩
theorem exA_r {s : List UInt8} (h : s.length = 64) : (exA s).right = true := by simp only [Rc.right, exA, h]; rfl
theorem exB_r {s : List UInt8} (h : s.length = 64) : (exB s).right = true := by simp only [Rc.right, exB, h]; rfl
theorem exC_r {s : List UInt8} (h : s.length = 64) : (exC s).right = true := by simp only [Rc.right, exC, h]; rfl
theorem ex_leaves {sa sb sc : List UInt8} (ha : sa.length = 64) (hb : sb.length = 64) (hc : sc.length = 64) {ls : List Rc} (hs : ∀ r, r ∈ ls ↔ r = exA sa ∨ r = exB sb ∨ r = exC sc) {L : List (List UInt8 × List Rc)} (h : IsLeaves ls L) :
    L = [([107], [exB sb, exC sc])] := by
  have hr : ∀ k r, r ∈ rightOf ls k ↔ k = [107] ∧ (r = exA sa ∨ r = exB sb ∨ r = exC sc) := fun k r => by
    simp only [rightOf, List.mem_filter, hs, Bool.and_eq_true, decide_eq_true_eq]
    constructor
    · rintro ⟨rfl | rfl | rfl, _, h2⟩
      · exact ⟨h2.symm, .inl rfl⟩
      · exact ⟨h2.symm, .inr (.inl rfl)⟩
      · exact ⟨h2.symm, .inr (.inr rfl)⟩
    · rintro ⟨rfl, rfl | rfl | rfl⟩
      · exact ⟨.inl rfl, exA_r ha, rfl⟩
      · exact ⟨.inr (.inl rfl), exB_r hb, rfl⟩
      · exact ⟨.inr (.inr rfl), exC_r hc, rfl⟩
  have hcp : IsComp (rightOf ls [107]) [exA sa, exB sb, exC sc] := by
    refine ⟨?_, fun r => ?_⟩
    · simp only [List.pairwise_cons, List.mem_cons, List.not_mem_nil, or_false, forall_eq_or_imp, forall_eq, dotLt, exA, exB, exC]
      refine ⟨⟨.inl (by decide), .inl (by decide)⟩, .inl (by decide), fun a h => h.elim, List.Pairwise.nil⟩
    · rw [hr]
      simp only [List.mem_cons, List.not_mem_nil, or_false, true_and]
      constructor
      · intro hm
        refine ⟨hm, fun r' hr' h1 _ => ?_⟩
        rw [hr] at hr'
        have : r' = r := by
          rcases hm with rfl | rfl | rfl <;> rcases hr'.2 with rfl | rfl | rfl <;> first | rfl | exact absurd h1 (by simp [exA, exB, exC])
        subst this
        exact List.lt_irrefl _
      · exact fun h => h.1
  have e : joinOf [exA sa, exB sb, exC sc] = [exB sb, exC sc] := by
    have o1 : (exC sc).over (exA sa) = true := by rfl
    have o2 : (exB sb).over (exA sa) = false := by rfl
    have o3 : (exA sa).over (exB sb) = false := by rfl
    have o4 : (exC sc).over (exB sb) = false := by rfl
    have o5 : (exA sa).over (exC sc) = false := by rfl
    have o6 : (exB sb).over (exC sc) = false := by rfl
    simp only [joinOf, List.filter_cons, List.filter_nil, List.any_cons, List.any_nil, o1, o2, o3, o4, o5, o6]
    simp [exA, exB, exC]
  refine h.uniq (l' := ls) ⟨?_, fun k s => ?_⟩ fun r => Iff.rfl
  · exact List.pairwise_cons.2 ⟨fun a h => by simp at h, List.Pairwise.nil⟩
  · simp only [List.mem_cons, List.not_mem_nil, or_false, Prod.mk.injEq]
    constructor
    · rintro ⟨rfl, rfl⟩
      exact ⟨by simp, _, hcp, e.symm⟩
    · rintro ⟨h1, c, hc1, rfl⟩
      by_cases hk : k = [107]
      · subst hk
        refine ⟨rfl, ?_⟩
        rw [hc1.uniq hcp fun r => Iff.rfl, e]
      · have : c = [] := List.eq_nil_iff_forall_not_mem.2 fun r hr' => hk ((hr k r).1 ((hc1.mem r).1 hr').1).1
        subst this
        exact absurd rfl h1
end Go.Sh
end
section
namespace Go.Proofs.YthaefcgpbccmbaaGreatDoor
open Go Go.Sh Go.MapKept
theorem recsAt_lit {w : World} {b n : Nat} {T : TypeId} {hs : List Hd} {rs : List Rc} (hb : Blk w b (hcells hs) T) (hn : hs.length = n) (hl : rs.length = n) (hI : ∀ i (h : i < hs.length) (h' : i < rs.length), HdAt w hs[i] rs[i]) :
    RecsAt w.heap.size w ⟨some ⟨b, 0, none⟩, n, n⟩ rs :=
  ⟨hs, (own_whole (n := n) (k := 7) hb (by rw [hcells, flatC_len Hd.len, hn])).rd, fun z hz => by
    rw [Slc.blk_mk] at hz
    split at hz
    · cases hz
    · cases hz; exact hb.lt, by omega, fun i a b => ⟨hI i a b, fun z hz => (hI i a b).lt z hz⟩⟩
theorem sem_recs2 {w : World} {K : Value → World → Prop} {h1 h2 : Hd} {r1 r2 : Rc} (H1 : HdAt w h1 r1) (H2 : HdAt w h2 r2)
    (hK : ∀ (x : Slc) w', Mod NoB w w' → RecsAt w'.heap.size w' x [r1, r2] → K (.slice x.a x.len x.cap) w') : semK Tryz.prog (Instr.buildSlice 22 2 #[(0, h1.val), (1, h2.val)]) w K := by
  obtain ⟨ir, hr1, hr2, hr3, hr4⟩ := iRec
  refine sem_lit [h1.val, h2.val] (l := hcells [h1, h2]) uRecs hr1 hr2 hr3 (by omega) rfl (by omega) (by omega) rfl (by intro v hv; simp at hv; rcases hv with rfl | rfl <;> rfl) (by simp [hcells, flatC, Value.cells, Hd.val]) fun lb w8 hN8 hb8 => hK ⟨some ⟨lb, 0, none⟩, 2, 2⟩ w8 hN8.mod (recsAt_lit hb8 rfl rfl fun i a b => ?_)
  match i, a with
  | 0, _ => exact H1.no hN8.mod
  | 1, _ => exact H2.no hN8.mod
theorem sem_recs3 {w : World} {K : Value → World → Prop} {h1 h2 h3 : Hd} {r1 r2 r3 : Rc} (H1 : HdAt w h1 r1) (H2 : HdAt w h2 r2) (H3 : HdAt w h3 r3)
    (hK : ∀ (x : Slc) w', Mod NoB w w' → RecsAt w'.heap.size w' x [r1, r2, r3] → K (.slice x.a x.len x.cap) w') : semK Tryz.prog (Instr.buildSlice 22 3 #[(0, h1.val), (1, h2.val), (2, h3.val)]) w K := by
  obtain ⟨ir, hr1, hr2, hr3, hr4⟩ := iRec
  refine sem_lit [h1.val, h2.val, h3.val] (l := hcells [h1, h2, h3]) uRecs hr1 hr2 hr3 (by omega) rfl (by omega) (by omega) rfl (by intro v hv; simp at hv; rcases hv with rfl | rfl | rfl <;> rfl) (by simp [hcells, flatC, Value.cells, Hd.val]) fun lb w8 hN8 hb8 => hK ⟨some ⟨lb, 0, none⟩, 3, 3⟩ w8 hN8.mod (recsAt_lit hb8 rfl rfl fun i a b => ?_)
  match i, a with
  | 0, _ => exact H1.no hN8.mod
  | 1, _ => exact H2.no hN8.mod
  | 2, _ => exact H3.no hN8.mod
theorem RecsAt.r {B : Nat} {w : World} {s : Slc} {ls : List Rc} (h : RecsAt B w s ls) : RecsR w s ls := by
  obtain ⟨hs, h1, h2, h3, h4⟩ := h
  exact ⟨hs, h1, h3, fun i a b => (h4 i a b).1⟩
theorem LeavesR.len {w : World} {o : Slc} {L : Lv} (h : LeavesR w o L) : L.length = o.len := by
  obtain ⟨es, g1, g2, _⟩ := h
  have := rd_lenC lcell_len (by omega) g1; omega
section
variable {w : World}
theorem c_awake (hg : GlobS w) : Calls Tryz.prog 7 #[] w (Ret fun v w' => v = .bool true ∧ Mod NoB w w') := by
  refine call7 ?_
  unfold sh7
  obtain ⟨ir, hr1, hr2, hr3, hr4⟩ := iRec
  obtain ⟨id, hd1, hd2, hd3, hd4⟩ := dotI
  refine callK_ret (c_lwrite (key := [107]) (cl := 1) (sq := 1) (ctx := ⟨none, 0, 0⟩) (cx := []) hg (rd_nil _ _) (by simp) (by simp) (by simp) (by rfl)) ?_
  rintro v w1 ⟨ha, sa, rfl, Ha, la, na, hm1⟩
  refine ⟨ha.a, ha.b, ha.c, ha.d, ha.e, ha.f, ha.g, rfl, ?_⟩
  refine callK_ret (c_lwrite (key := [107]) (cl := 2) (sq := 1) (ctx := ⟨none, 0, 0⟩) (cx := []) (hg.no hm1) (rd_nil _ _) (by simp) (by simp) (by simp) (by rfl)) ?_
  rintro v w2 ⟨hb, sb, rfl, Hb, lb, nb, hm2⟩
  refine ⟨hb.a, hb.b, hb.c, hb.d, hb.e, hb.f, hb.g, rfl, ?_⟩
  refine sem_alloc (l := Hd.cells ⟨[], 0, 0, ⟨none, 0, 0⟩, false, ⟨none, 0, 0⟩, ⟨none, 0, 0⟩⟩) hr1 hr2 rfl fun p w3 hN3 hp3 => ⟨_, rfl, ?_⟩
  refine sem_alloc (l := Hd.cells ⟨[], 0, 0, ⟨none, 0, 0⟩, false, ⟨none, 0, 0⟩, ⟨none, 0, 0⟩⟩) hr1 hr2 rfl fun q w4 hN4 hq4 => ⟨_, rfl, ?_⟩
  have e3 := hN3.at_; have e4 := hN4.at_; have s3 := hN3.size; have s4 := hN4.size
  refine semU_hd (h := ha) (by kernel_rfl) (by kernel_rfl) (hp3.no hN4.mod) rfl fun w5 ht5 hp5 => ?_
  refine semU_hd (h := hb) (by kernel_rfl) (by kernel_rfl) (hq4.mod ht5.mod (by omega)) rfl fun w6 ht6 hq6 => ?_
  have hp6 := hp5.mod ht6.mod (by omega)
  have hm26 : Mod NoB w2 w6 := (((hN3.mod.tr hN4.mod).fresh ht5.mod fun z e => by omega)).fresh ht6.mod fun z e => by omega
  refine sem_lit [.agg #[.int .i64 1, .int .i64 1]] (l := dts [(1, 1)]) uDots hd1 hd2 hd3 (by omega) rfl (by omega) (by omega) rfl (by intro v hv; simp at hv; subst hv; rfl) rfl fun d w7 hN7 hd7 => ⟨⟨some ⟨d, 0, none⟩, 1, 1⟩, rfl, ?_⟩
  have hm7 := ((hm1.tr hm2).tr hm26).tr hN7.mod
  refine callK_ret (c_lwrite (key := [107]) (cl := 3) (sq := 1) (ctx := ⟨some ⟨d, 0, none⟩, 1, 1⟩) (cx := [(1, 1)]) (hg.no hm7) (own_whole (n := 1) (k := 2) hd7 (by simp [dts])).rd (fun z hz => by rw [Slc.blk_mk, if_neg (by omega)] at hz; cases hz; exact hd7.lt) (by simp) (by simp) (by rfl)) ?_
  rintro v w8 ⟨hc, sc, rfl, Hc, lc, nc, hm8⟩
  refine ⟨hc.a, hc.b, hc.c, hc.d, hc.e, hc.f, hc.g, rfl, ?_⟩
  refine sem_alloc (l := Hd.cells ⟨[], 0, 0, ⟨none, 0, 0⟩, false, ⟨none, 0, 0⟩, ⟨none, 0, 0⟩⟩) hr1 hr2 rfl fun r w9 hN9 hr9 => ⟨_, rfl, ?_⟩
  have e9 := hN9.at_
  refine semU_hd (h := hc) (by kernel_rfl) (by kernel_rfl) hr9 rfl fun w10 ht10 hr10 => ?_
  have hm810 : Mod NoB w8 w10 := hN9.mod.fresh ht10.mod fun z e => by omega
  have hm610 : Mod NoB w6 w10 := hN7.mod.tr (hm8.tr hm810)
  have hMd : Mod NoB w w10.drew := (hm7.tr (hm8.tr hm810)).tr (Mod.drew NoB w10)
  have hpd := (hp6.no hm610).drew
  have hqd := (hq6.no hm610).drew
  have hrd := hr10.drew
  have HA : HdAt w10.drew ha (exA sa) := Ha.no (hm2.tr (hm26.tr (hm610.tr (Mod.drew NoB w10))))
  have HB : HdAt w10.drew hb (exB sb) := Hb.no (hm26.tr (hm610.tr (Mod.drew NoB w10)))
  have HC : HdAt w10.drew hc (exC sc) := Hc.no (hm810.tr (Mod.drew NoB w10))
  have gr : ∀ {w1 : World} {x1 : Slc} {K : Slc → World → Prop} {pan : List PanicEntry → World → Prop}, RecsAt w1.heap.size w1 x1 [exC sc, exA sa, exB sb] → (∀ x2 w2, Mod NoB w1 w2 → RecsR w2 x2 [exB sb, exC sc] → K x2 w2) →
      callK Tryz.prog 11 [.slice x1.a x1.len x1.cap] w1 pan fun v w' => ∃ x2 : Slc, v = .slice x2.a x2.len x2.cap ∧ K x2 w' := fun hR hK =>
    callK_ret (c_Greatest hR (by simp)) fun v w' ⟨o, L, hv, hL, hQ, hm⟩ => ⟨o, hv, hK o w' hm (by
      have := ex_leaves la lb lc (fun r => by simp only [List.mem_cons, List.not_mem_nil, or_false]; exact ⟨fun h => by rcases h with h | h | h; exact .inr (.inr h); exact .inl h; exact .inr (.inl h), fun h => by rcases h with h | h | h; exact .inr (.inl h); exact .inr (.inr h); exact .inl h⟩) hL
      subst this
      simpa using hQ.r)⟩
  refine ⟨Mod NoB w10.drew, Mod.refl _ _, hc.a, hc.b, hc.c, hc.d, hc.e, hc.f, hc.g, fun w' hm => rdH (hrd.no hm), ha.a, ha.b, ha.c, ha.d, ha.e, ha.f, ha.g, fun w' hm => rdH (hpd.no hm), hb.a, hb.b, hb.c, hb.d, hb.e, hb.f, hb.g, fun w' hm => rdH (hqd.no hm), hb.a, hb.b, hb.c, hb.d, hb.e, hb.f, hb.g, fun w' hm => rdH (hqd.no hm), hc.a, hc.b, hc.c, hc.d, hc.e, hc.f, hc.g, fun w' hm => rdH (hrd.no hm), ?_, ?_, trivial⟩
  · refine sem_recs3 (h1 := hc) (h2 := ha) (h3 := hb) HC HA HB fun x1 w11 hm11 hR1 => ⟨x1, rfl, hm11, ?_, ?_, trivial⟩
    · refine gr hR1 fun x2 w12 hm12 hR2 => ⟨hm11.tr hm12, ?_, trivial⟩
      refine sem_recs2 (h1 := hb) (h2 := hc) (HB.no (hm11.tr hm12)) (HC.no (hm11.tr hm12)) fun x3 w13 hm13 hR3 => ⟨x3, rfl, (hm11.tr hm12).tr hm13, ?_, trivial⟩
      have hR2 := hR2.no hm13
      have hR3 := hR3.r
      have hmS := (hm11.tr hm12).tr hm13
      clear hm11 hm12 hm13 hR1
      refine callK_ret (c_sameRecs hR2 hR3 (by simp)) ?_
      rintro v w14 ⟨rfl, hm14⟩
      have hm14 := hmS.tr hm14
      refine ⟨_, rfl, hm14, condK_i (fun _ => ?_) fun h => by simp at h⟩
      refine ⟨ha.a, ha.b, ha.c, ha.d, ha.e, ha.f, ha.g, fun w' hm => rdH (hpd.no hm), hb.a, hb.b, hb.c, hb.d, hb.e, hb.f, hb.g, fun w' hm => rdH (hqd.no hm), hc.a, hc.b, hc.c, hc.d, hc.e, hc.f, hc.g, fun w' hm => rdH (hrd.no hm), ?_, trivial⟩
      refine sem_recs3 (h1 := ha) (h2 := hb) (h3 := hc) (HA.no hm14) (HB.no hm14) (HC.no hm14) fun x5 w15 hm15 hR5 => ⟨x5, rfl, hm14.tr hm15, ?_, trivial⟩
      refine callK_ret (c_Leaves hR5 (by simp)) ?_
      rintro v w16 ⟨x6, L, rfl, hL, hQ, hm16⟩
      have hm16 := (hm14.tr hm15).tr hm16
      have := ex_leaves la lb lc (fun r => by simp only [List.mem_cons, List.not_mem_nil, or_false]) hL
      subst this
      have h6 := hQ.r.len
      refine ⟨x6, rfl, hm16, congrArg Value.bool ?_, hMd.tr hm16⟩
      have h6 : x6.len = 1 := h6.symm
      rw [h6]; rfl
    · refine sem_recs2 (h1 := hb) (h2 := hc) (HB.no hm11) (HC.no hm11) fun x3 w12 hm12 hR3 => ⟨x3, rfl, hm11.tr hm12, ?_, trivial⟩
      refine gr ((hR1.mod (hm12.mono fun _ _ h => h.elim)).le hm12.size) fun x2 w13 hm13 hR2 => ⟨(hm11.tr hm12).tr hm13, ?_, trivial⟩
      have hR3 := hR3.r.no hm13
      have hmS := (hm11.tr hm12).tr hm13
      clear hm11 hm12 hm13 hR1
      refine callK_ret (c_sameRecs hR2 hR3 (by simp)) ?_
      rintro v w14 ⟨rfl, hm14⟩
      have hm14 := hmS.tr hm14
      refine ⟨_, rfl, hm14, condK_i (fun _ => ?_) fun h => by simp at h⟩
      refine ⟨ha.a, ha.b, ha.c, ha.d, ha.e, ha.f, ha.g, fun w' hm => rdH (hpd.no hm), hb.a, hb.b, hb.c, hb.d, hb.e, hb.f, hb.g, fun w' hm => rdH (hqd.no hm), hc.a, hc.b, hc.c, hc.d, hc.e, hc.f, hc.g, fun w' hm => rdH (hrd.no hm), ?_, trivial⟩
      refine sem_recs3 (h1 := ha) (h2 := hb) (h3 := hc) (HA.no hm14) (HB.no hm14) (HC.no hm14) fun x5 w15 hm15 hR5 => ⟨x5, rfl, hm14.tr hm15, ?_, trivial⟩
      refine callK_ret (c_Leaves hR5 (by simp)) ?_
      rintro v w16 ⟨x6, L, rfl, hL, hQ, hm16⟩
      have hm16 := (hm14.tr hm15).tr hm16
      have := ex_leaves la lb lc (fun r => by simp only [List.mem_cons, List.not_mem_nil, or_false]) hL
      subst this
      have h6 := hQ.r.len
      refine ⟨x6, rfl, hm16, congrArg Value.bool ?_, hMd.tr hm16⟩
      have h6 : x6.len = 1 := h6.symm
      rw [h6]; rfl
  · refine sem_recs2 (h1 := hb) (h2 := hc) HB HC fun x3 w11 hm11 hR3 => ⟨x3, rfl, hm11, ?_, trivial⟩
    refine sem_recs3 (h1 := hc) (h2 := ha) (h3 := hb) (HC.no hm11) (HA.no hm11) (HB.no hm11) fun x1 w12 hm12 hR1 => ⟨x1, rfl, hm11.tr hm12, ?_, trivial⟩
    refine gr hR1 fun x2 w13 hm13 hR2 => ⟨(hm11.tr hm12).tr hm13, ?_, trivial⟩
    have hR3 := (hR3.r.no hm12).no hm13
    have hmS := (hm11.tr hm12).tr hm13
    clear hm11 hm12 hm13 hR1
    refine callK_ret (c_sameRecs hR2 hR3 (by simp)) ?_
    rintro v w14 ⟨rfl, hm14⟩
    have hm14 := hmS.tr hm14
    refine ⟨_, rfl, hm14, condK_i (fun _ => ?_) fun h => by simp at h⟩
    refine ⟨ha.a, ha.b, ha.c, ha.d, ha.e, ha.f, ha.g, fun w' hm => rdH (hpd.no hm), hb.a, hb.b, hb.c, hb.d, hb.e, hb.f, hb.g, fun w' hm => rdH (hqd.no hm), hc.a, hc.b, hc.c, hc.d, hc.e, hc.f, hc.g, fun w' hm => rdH (hrd.no hm), ?_, trivial⟩
    refine sem_recs3 (h1 := ha) (h2 := hb) (h3 := hc) (HA.no hm14) (HB.no hm14) (HC.no hm14) fun x5 w15 hm15 hR5 => ⟨x5, rfl, hm14.tr hm15, ?_, trivial⟩
    refine callK_ret (c_Leaves hR5 (by simp)) ?_
    rintro v w16 ⟨x6, L, rfl, hL, hQ, hm16⟩
    have hm16 := (hm14.tr hm15).tr hm16
    have := ex_leaves la lb lc (fun r => by simp only [List.mem_cons, List.not_mem_nil, or_false]) hL
    subst this
    have h6 := hQ.r.len
    refine ⟨x6, rfl, hm16, congrArg Value.bool ?_, hMd.tr hm16⟩
    have h6 : x6.len = 1 := h6.symm
    rw [h6]; rfl
end
def RowN (w0 w : World) (x : Slc) (rs : List Rc) : Prop :=
  ∃ hs : List Hd, Sh.Own w x 7 (hcells hs) ∧ FB w0 x ∧ hs.length = rs.length ∧ (∀ i (h : i < hs.length) (h' : i < rs.length), HdAt w0 hs[i] rs[i]) ∧ Mod NoB w0 w
theorem RowN.nil {w0 w : World} (h : Mod NoB w0 w) : RowN w0 w ⟨none, 0, 0⟩ [] := ⟨[], own_nil _ 7, FB.nil _, rfl, fun i h => by simp at h, h⟩
theorem RowN.no {w0 w w' : World} {x : Slc} {rs : List Rc} (h : RowN w0 w x rs) (hm : Mod NoB w w') : RowN w0 w' x rs := by
  obtain ⟨hs, h1, h2, h3, h4, h5⟩ := h
  exact ⟨hs, h1.no hm, h2, h3, h4, h5.tr hm⟩
theorem RowN.at {w0 w : World} {x : Slc} {rs : List Rc} (h : RowN w0 w x rs) : RecsAt w.heap.size w x rs := by
  obtain ⟨hs, h1, h2, h3, h4, h5⟩ := h
  exact ⟨hs, h1.rd, fun z hz => h1.lt hz, h3, fun i a b => ⟨(h4 i a b).no h5, fun z hz => Nat.lt_of_lt_of_le ((h4 i a b).lt z hz) h5.size⟩⟩
theorem RowN.m {w0 w : World} {x : Slc} {rs : List Rc} (h : RowN w0 w x rs) : Mod NoB w0 w := by
  obtain ⟨hs, h1, h2, h3, h4, h5⟩ := h
  exact h5
theorem push_rec {w0 w : World} {x : Slc} {rs : List Rc} {h : Hd} {r : Rc} {K : Slc → World → Prop} (hR : RowN w0 w x rs) (H : HdAt w0 h r) (hn : rs.length ≤ 100000) (hK : ∀ x' w', RowN w0 w' x' (rs ++ [r]) → K x' w') :
    semK Tryz.prog (Instr.buildSlice 22 1 #[(0, h.val)]) w fun v w' => ∃ x6 : Slc, v = .slice x6.a x6.len x6.cap ∧ semK Tryz.prog (Builtin.append_ #[22, 22] 22 #[.slice x.a x.len x.cap, .slice x6.a x6.len x6.cap]) w' fun v4 w8 => ∃ x7 : Slc, v4 = .slice x7.a x7.len x7.cap ∧ K x7 w8 := by
  obtain ⟨ir, hr1, hr2, hr3, hr4⟩ := iRec
  obtain ⟨hs, h1, h2, h3, h4, h5⟩ := hR
  have hxl := rd_lenC Hd.len (by omega) h1.rd
  refine sem_lit [h.val] (l := hcells [h]) uRecs hr1 hr2 hr3 (by omega) rfl (by omega) (by omega) rfl (by intro v hv; simp at hv; subst hv; rfl) (by simp [hcells, flatC, Value.cells, Hd.val]) fun lb w8 hN8 hb8 => ⟨⟨some ⟨lb, 0, none⟩, 1, 1⟩, rfl, ?_⟩
  have hlit : SlRd w8 ⟨some ⟨lb, 0, none⟩, 1, 1⟩ 7 (hcells [h]) := (own_whole (n := 1) (k := 7) hb8 (by rw [hcells, flatC_len Hd.len]; rfl)).rd
  refine sem_append uRecs hr1 hr2 hr3 rfl hr4 (h1.no hN8.mod) hlit (flatC_one Hd.one _) (by simp only []; omega) (by simp only []; omega) fun x' w9 ho9 hlen hblk hm9 => ⟨x', rfl, hK x' w9 ⟨hs ++ [h], by rw [hcells, flatC_app]; exact ho9, h2.step (Nat.le_trans h5.size hN8.mod.size) hblk, by simp [h3], fun i a b => ?_, h2.mod (h5.tr hN8.mod) hm9⟩⟩
  rcases Nat.lt_or_ge i hs.length with hi | hi
  · rw [List.getElem_append_left hi, List.getElem_append_left (by omega)]; exact h4 i hi (by omega)
  · have hi' : i = hs.length := by simp at a; omega
    subst hi'
    rw [List.getElem_append_right (by omega), List.getElem_append_right (by omega)]
    simpa using H
section
variable {w : World}
theorem c_unionOrder {s order : Slc} {ls : List Rc} {os : List Int} (hg : GlobS w) (hl : RecsIn w s ls) (hn : s.len ≤ 9000000000000000000) (ho : SlRd w order 1 (ints os)) (hon : order.len ≤ 9000000000000000000) :
    Calls Tryz.prog 4 #[.slice s.a s.len s.cap, .slice order.a order.len order.cap] w (Ret fun v w' => v = .bool true ∧ Mod NoB w w') := by
  refine call4 _ _ ?_
  unfold sh4
  refine callK_ret (c_awake hg) ?_
  rintro v w1 ⟨rfl, hm1⟩
  refine ⟨_, rfl, condK_i (fun h => by cases h) fun _ => ?_⟩
  have hol : os.length = order.len := by have := ho.1; simpa [ints] using this
  refine ⟨fun l' w' => match l' with | [.b t] => (t = false → lightQ ls ∧ order.len ≤ 30) ∧ w' = w1 | _ => False, ?_, ?_⟩
  · refine callK_ret (c_light (hl.no hm1) hn) ?_
    rintro v w2 ⟨b, rfl, hb, rfl⟩
    refine ⟨b, rfl, condK_i (fun h => ⟨(fun h => by cases h), rfl⟩) fun h => ⟨fun h2 => ?_, rfl⟩⟩
    have h : b = true := by simpa using h
    have h2 := of_decide_eq_false h2
    exact ⟨hb h, by omega⟩
  · rintro t w2 ⟨ht, rfl⟩
    refine condK_i (fun h => ⟨rfl, hm1⟩) fun h => ?_
    subst h
    obtain ⟨hq, hon'⟩ := ht rfl
    have hlen := hl.len
    have hA := (hl.no hm1).at hq
    have hq1 := hq.1
    obtain ⟨hs, g1, g2, g3, g4⟩ := (hl.no hm1).at hq
    refine ⟨fun l' w' => match l' with | [.sl x, .i _ y] => ∃ (k : Nat) (rs : List Rc), y = k ∧ k ≤ order.len ∧ rs.length ≤ k ∧ (∀ r ∈ rs, r ∈ ls) ∧ RowN w2 w' x rs | _ => False, fun l' _ => match l' with | [.sl _, .i _ y] => (order.len - y).toNat | _ => 0, ⟨0, [], rfl, by omega, by simp, by simp, RowN.nil (Mod.refl _ _)⟩, ?_⟩
    rintro x y w3 ⟨k, rs, rfl, hk, hrs, hmem, hR3⟩
    refine ⟨fun l' w' => match l' with | [.b t] => (t = true → k < order.len ∧ 0 < ls.length) ∧ w' = w3 | _ => False, condK_i (fun h => ⟨fun h2 => ?_, rfl⟩) (fun h => ⟨(fun h2 => by cases h2), rfl⟩), ?_⟩
    · have h := of_decide_eq_true h; have h2 := of_decide_eq_true h2
      exact ⟨by omega, by omega⟩
    · rintro t w4 ⟨ht, rfl⟩
      refine condK_i (fun h => ?_) fun h => ?_
      · obtain ⟨hk', hl0⟩ := ht h
        have hR4 := hR3
        have ho4 := ho.no (hm1.tr hR3.m)
        obtain ⟨a0, ea0, hra0⟩ := rd_one ho4 (i := k) (by simp [ints]; omega)
        rw [ea0]
        have ei : (ints os)[k]'(by simp [ints]; omega) = .int .i64 (os[k]'(by omega)) := by simp [ints]
        rw [ei] at hra0
        refine ⟨⟨by omega, by omega⟩, os[k]'(by omega), hra0, ?_⟩
        refine callK_ret (c_pick (n := s.len) (by omega) (by omega)) ?_
        rintro v w5 ⟨j, rfl, hj, rfl⟩
        have hj' : j < hs.length := by omega
        obtain ⟨A, ea, hrd⟩ := rd_flat Hd.len (by omega) (g1.no hR4.m) hj'
        rw [ea]
        refine ⟨(j : Int), rfl, ⟨by omega, by omega⟩, hs[j].a, hs[j].b, hs[j].c, hs[j].d, hs[j].e, hs[j].f, hs[j].g, hrd, ?_⟩
        refine push_rec (h := hs[j]) hR4 (g4 j hj' (by omega)).1 (by omega) fun x' w6 hR6 => ⟨⟨k + 1, rs ++ [ls[j]'(by omega)], wrap_nat (by omega), by omega, by simp; omega, fun r hr => ?_, hR6⟩, ?_⟩
        · rcases List.mem_append.1 hr with hr | hr
          · exact hmem r hr
          · simp at hr; subst hr; exact List.getElem_mem _
        · rw [wrap_nat (by omega)]; (try simp only []); omega
      · refine ⟨fun l' w' => match l' with | [.sl x, .i _ y] => ∃ (k2 : Nat) (rs' : List Rc), y = (k2 : Int) - 1 ∧ k2 ≤ ls.length ∧ rs'.length + k2 ≤ 100 ∧ (∀ r ∈ rs', r ∈ ls) ∧ (∀ r ∈ ls.drop k2, r ∈ rs') ∧ RowN w2 w' x rs' | _ => False, fun l' _ => match l' with | [.sl _, .i _ y] => (y + 1).toNat | _ => 0, ⟨ls.length, rs, by rw [wrap_i64 (e := (s.len : Int) - 1) (by omega)]; omega, by omega, by omega, hmem, by simp, hR3⟩, ?_⟩
        rintro x5 y5 w5 ⟨k2, rs', rfl, hk2, hrs', hm', hd', hR5⟩
        refine condK_i (fun hge => ?_) fun hlt => ?_
        · have hk0 : 1 ≤ k2 := by have := of_decide_eq_true hge; omega
          obtain ⟨j, rfl⟩ : ∃ j, k2 = j + 1 := ⟨k2 - 1, by omega⟩
          have hj' : j < hs.length := by omega
          have ej : ((j + 1 : Nat) : Int) - 1 = (j : Int) := by omega
          rw [ej]
          obtain ⟨A, ea, hrd⟩ := rd_flat Hd.len (by omega) (g1.no hR5.m) hj'
          rw [ea]
          refine ⟨⟨by omega, by omega⟩, hs[j].a, hs[j].b, hs[j].c, hs[j].d, hs[j].e, hs[j].f, hs[j].g, hrd, ?_⟩
          refine push_rec (h := hs[j]) hR5 (g4 j hj' (by omega)).1 (by omega) fun x' w6 hR6 => ⟨⟨j, rs' ++ [ls[j]'(by omega)], wrap_i64 (e := (j : Int) - 1) (by omega), by omega, by simp; omega, fun r hr => ?_, fun r hr => ?_, hR6⟩, ?_⟩
          · rcases List.mem_append.1 hr with hr | hr
            · exact hm' r hr
            · simp at hr; subst hr; exact List.getElem_mem _
          · rw [List.drop_eq_getElem_cons (show j < ls.length by omega)] at hr
            rcases List.mem_cons.1 hr with rfl | hr
            · simp
            · exact List.mem_append_left _ (hd' r hr)
          · rw [wrap_i64 (e := (j : Int) - 1) (by omega)]; (try simp only []); omega
        · have hk0 : k2 = 0 := by have := of_decide_eq_false hlt; omega
          subst hk0
          have hmm : ∀ r, r ∈ ls ↔ r ∈ rs' := fun r => ⟨fun h => hd' r (by simpa using h), hm' r⟩
          have hA5 : RecsAt w5.heap.size w5 s ls := (hA.mod (hR5.m.mono fun _ _ h => h.elim)).le hR5.m.size
          refine callK_ret (c_Leaves hA5 (by omega)) ?_
          rintro v w6 ⟨x6, L1, rfl, hL1, hQ1, hm6⟩
          refine ⟨x6, rfl, ?_⟩
          have hR6 := hR5.no hm6
          refine callK_ret (c_Leaves hR6.at (by omega)) ?_
          rintro v w7 ⟨x7, L2, rfl, hL2, hQ2, hm7⟩
          obtain rfl := hL1.uniq hL2 hmm
          refine ⟨x7, rfl, ?_⟩
          obtain ⟨n1, n2⟩ := isLeaves_len hL1
          refine callK_ret (c_sameLeaves (hQ1.r.no hm7) hQ2.r (by omega) (fun e he => by have := n2 e he; omega)) ?_
          rintro v w8 ⟨rfl, hm8⟩
          refine ⟨_, rfl, condK_i (fun _ => ?_) fun h => by simp at h⟩
          have hm58 := (hm6.tr hm7).tr hm8
          refine callK_ret (c_Greatest ((hA5.mod (hm58.mono fun _ _ h => h.elim)).le hm58.size) (by omega)) ?_
          rintro v w9 ⟨x9, M1, rfl, hM1, hS1, hm9⟩
          refine ⟨x9, rfl, ?_⟩
          have hR9 := (hR5.no hm58).no hm9
          refine callK_ret (c_Greatest hR9.at (by omega)) ?_
          rintro v w10 ⟨x10, M2, rfl, hM2, hS2, hm10⟩
          obtain rfl := hM1.uniq hM2 hmm
          refine ⟨x10, rfl, ?_⟩
          have hml : (M1.flatMap (·.2)).length ≤ 1000 := by
            obtain ⟨m1, m2⟩ := isLeaves_len hM1
            have : ∀ (M : List (List UInt8 × List Rc)), (∀ e ∈ M, e.2.length ≤ ls.length) → (M.flatMap (·.2)).length ≤ M.length * ls.length := by
              intro M
              induction M with
              | nil => intro _; simp
              | cons e M ih =>
                intro h
                have h1 := h e (by simp)
                have h2 := ih fun e he => h e (by simp [he])
                simp only [List.flatMap_cons, List.length_append, List.length_cons, Nat.succ_mul]; omega
            have h3 := this M1 m2
            have h4 := Nat.mul_le_mul m1 (Nat.le_refl ls.length)
            have h5 := Nat.mul_le_mul hq1 hq1
            omega
          refine callK_ret (c_sameRecs (hS1.r.no hm10) hS2.r (by omega)) ?_
          rintro v w11 ⟨rfl, hm11⟩
          exact ⟨_, rfl, congrArg Value.bool (by simp), (hm1.tr hR5.m).tr (hm58.tr ((hm9.tr hm10).tr hm11))⟩
end
end Go.Proofs.YthaefcgpbccmbaaGreatDoor
end
