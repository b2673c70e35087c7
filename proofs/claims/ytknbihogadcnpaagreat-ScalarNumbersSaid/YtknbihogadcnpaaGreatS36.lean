/- Scalars: the document's answer, bit by bit. -/
import Derived.Test.YtknbihogadcnpaaGreatS33
import Derived.Test.YtknbihogadcnpaaGreatM5
import Derived.Test.YtknbihogadcnpaaGreatFnR
set_option linter.unusedSimpArgs false
set_option linter.unusedVariables false
set_option maxRecDepth 100000
namespace Go.Proofs.YtknbihogadcnpaaGreat
open Go Go.Sh

/-- a slice whose whole room holds bytes -/
def RB (w : World) (s : Slc) : Prop := s.len ≤ s.cap ∧ (s.cap = 0 ∨ ∃ b o l T, s.a = some ⟨b, o, none⟩ ∧ Blk w b l T ∧ o + s.cap ≤ l.length ∧ ∀ j, j < s.cap → ∃ c : UInt8, l[o + j]? = some (.int .u8 c.toNat))
theorem RB.mod {w w' : World} {s : Slc} {S : Nat → Prop} (h : RB w s) (hm : Mod S w w') (hs : ∀ b, s.blk = some b → ¬ S b) : RB w' s := by
  obtain ⟨h1, h2⟩ := h
  refine ⟨h1, ?_⟩
  by_cases hc : s.cap = 0
  · exact .inl hc
  · obtain ⟨b, o, l, T, e1, e2, e3, e4⟩ := h2.resolve_left hc
    exact .inr ⟨b, o, l, T, e1, e2.mod hm (hs b (Slc.blk_of e1 (by omega))), e3, e4⟩
theorem RB.no {w w' : World} {s : Slc} (h : RB w s) (hm : Mod NoB w w') : RB w' s := h.mod hm fun _ _ h => h
theorem RB.lt {w : World} {s : Slc} (h : RB w s) : ∀ x, s.blk = some x → x < w.heap.size := by
  intro x hx
  by_cases hc : s.cap = 0
  · rw [Slc.blk_zero hc] at hx; cases hx
  · obtain ⟨b, o, l, T, e1, e2, e3, e4⟩ := h.2.resolve_left hc
    rw [Slc.blk_of e1 (by omega)] at hx; cases hx; exact e2.lt
theorem RB.of {w : World} {s : Slc} {l : List UInt8} (h : Sh.Own w s 1 (bys l)) (hc : s.cap = s.len) : RB w s := by
  refine ⟨by omega, ?_⟩
  rcases h.owned with ⟨e1, _, _⟩ | ⟨hcp, b, o, r, T, e1, e2, e3, e4⟩
  · exact .inl e1
  · refine .inr ⟨b, o, r, T, e1, e2, by omega, fun j hj => ?_⟩
    have hl := rd_len8 h.rd
    have hb := bys_at (l := l) (i := j) (by omega)
    rw [← e4, List.getElem?_take, if_pos (by omega), List.getElem?_drop] at hb
    exact ⟨_, hb⟩
theorem RB.rd {w : World} {s : Slc} (h : RB w s) : ∃ l, SlRd w s 1 (bys l) := by
  obtain ⟨h1, h2⟩ := h
  by_cases hc : s.cap = 0
  · exact ⟨[], by simp; omega, h1, .inl rfl⟩
  · obtain ⟨b, o, l, T, e1, e2, e3, e4⟩ := h2.resolve_left hc
    have : ∀ n, n ≤ s.cap → ∃ r : List UInt8, r.length = n ∧ ∀ j, j < n → l[o + j]? = (bys r)[j]? := by
      intro n
      induction n with
      | zero => intro _; exact ⟨[], rfl, fun j hj => by omega⟩
      | succ n ih =>
        intro hn
        obtain ⟨r, hr, hj⟩ := ih (by omega)
        obtain ⟨c, hcj⟩ := e4 n (by omega)
        refine ⟨r ++ [c], by simp [hr], fun j hjn => ?_⟩
        rw [bys_app]
        rcases Nat.lt_or_ge j n with h | h
        · rw [List.getElem?_append_left (by simp; omega)]; exact hj j h
        · have : j = n := by omega
          subst this
          rw [List.getElem?_append_right (by simp [hr])]
          simp [hr, bys, hcj]
    obtain ⟨r, hr, hj⟩ := this s.len h1
    refine ⟨r, by simp [hr], h1, .inr ⟨_, e1, fun j v hv => ?_⟩⟩
    have hjl : j < r.length := by
      rcases Nat.lt_or_ge j r.length with h | h
      · exact h
      · rw [List.getElem?_eq_none (by simpa using h)] at hv; cases hv
    rw [addl, e2.cell, hj j (by omega), hv]
theorem RB.cut0 {w : World} {s : Slc} {n : Nat} (h : RB w s) (hn : n ≤ s.cap) : RB w ⟨s.a, n, s.cap⟩ := ⟨hn, h.2⟩
theorem RB.blk0 {b n : Nat} {w : World} {l : List UInt8} {T : TypeId} (h : Blk w b (bys l) T) (hn : n ≤ l.length) : RB w ⟨some ⟨b, 0, none⟩, n, l.length⟩ :=
  ⟨hn, .inr ⟨b, 0, _, T, rfl, h, by simp, fun j hj => ⟨l[j], by rw [Nat.zero_add]; exact bys_at hj⟩⟩⟩

theorem c_rOrder {w : World} : Calls Tryz.prog 30 #[] w (Ret fun v w' => ∃ x : Slc, v = x.val ∧ Sh.Own w' x 1 (bys ordB) ∧ FB w x ∧ Mod NoB w w') := by
  refine call30 ?_
  unfold sh30
  refine sem_bytes ordB (by rfl) rfl (by decide) (by decide) fun x e w1 hN hx hb ho => ⟨x, rfl, x, rfl, ho, ?_, hN.mod⟩
  rw [hx]; exact FB.new (by rw [hN.at_]; exact Nat.le_refl _)
theorem c_rLess {w : World} {a b : Slc} {la lb : List UInt8} (ha : SlRd w a 1 (bys la)) (hb : SlRd w b 1 (bys lb)) (hl : la.length = 33) (hl' : lb.length = 33) :
    Calls Tryz.prog 29 #[.slice a.a a.len a.cap, .slice b.a b.len b.cap] w (Ret fun v w' => v = .bool (decide (le la < le lb)) ∧ Mod NoB w w') := by
  refine call29 _ _ ?_
  unfold sh29
  have hna := rd_len8 ha; have hnb := rd_len8 hb
  refine ⟨fun l' w' => match l' with | [.i _ x] => ∃ k : Nat, x = (k : Int) - 1 ∧ k ≤ 33 ∧ la.drop k = lb.drop k ∧ Mod NoB w w' | _ => False, fun l' _ => match l' with | [.i _ x] => (x + 1).toNat | _ => 0, ⟨33, rfl, by omega, by rw [List.drop_of_length_le (by omega), List.drop_of_length_le (by omega)], Mod.refl _ _⟩, ?_⟩
  rintro x w1 ⟨k, rfl, hk, hd, hm⟩
  refine condK_i (fun hge => ?_) fun hlt => ?_
  · have hk1 : 0 < k := by simp at hge; omega
    have e1 : ((k : Int) - 1).toNat = k - 1 := by omega
    rw [e1]
    obtain ⟨aa, eaa, hra⟩ := rd_u8 ha (i := k - 1) (by omega)
    obtain ⟨ab, eab, hrb⟩ := rd_u8 hb (i := k - 1) (by omega)
    rw [eaa, eab]
    have hra' := hra.mod hm fun h => h; have hrb' := hrb.mod hm fun h => h
    refine ⟨⟨by omega, by omega⟩, ⟨by omega, by omega⟩, _, hra'.drew, _, hrb'.drew, condK_i (fun hx => ?_) fun hx => ?_⟩
    · refine ⟨⟨by omega, by omega⟩, ⟨by omega, by omega⟩, _, hra'.drew.drew, _, hrb'.drew.drew, ?_, hm.dr.dr⟩
      have := le_cmp la lb (k - 1) (by omega) (by omega) (by omega) (by rw [Nat.sub_add_cancel hk1]; exact hd) (by simpa using hx)
      simp only [this]
    · refine ⟨⟨k - 1, by rw [wrap_i64 (by omega)]; omega, by omega, ?_, hm.dr⟩, ?_⟩
      · have h' : la[k - 1]'(by omega) = lb[k - 1]'(by omega) := by simpa using hx
        rw [List.drop_eq_getElem_cons (by omega : k - 1 < la.length), List.drop_eq_getElem_cons (by omega : k - 1 < lb.length), h', Nat.sub_add_cancel hk1, hd]
      · rw [wrap_i64 (by omega)]; (try simp only []); omega
  · have : k = 0 := by simp at hlt; omega
    subst this
    have : la = lb := by simpa using hd
    subst this
    exact ⟨by simp, hm⟩
theorem c_rDouble {w : World} {a : Slc} {la : List UInt8} {bit : UInt8} (ha : SlRd w a 1 (bys la)) (hal : ∀ x, a.blk = some x → x < w.heap.size) (hl : la.length = 33) (hb : bit = 0 ∨ bit = 1) (hv : 2 * le la + bit.toNat < 256 ^ 33) :
    Calls Tryz.prog 40 #[.slice a.a a.len a.cap, .int .u8 bit.toNat] w (Ret fun v w' => ∃ (x : Slc) (l : List UInt8), v = x.val ∧ Sh.Own w' x 1 (bys l) ∧ l.length = 33 ∧ x.cap = 33 ∧ le l = 2 * le la + bit.toNat ∧ FB w x ∧ RB w' x ∧ Mod NoB w w') := by
  refine call40 _ _ ?_
  unfold sh40
  obtain ⟨i5', h51, h52, h53, h54⟩ := i5
  have hna := rd_len8 ha
  refine sem_makeSlice (l := 33) (c := 33) u26 h51 h52 h53 rfl h54 rfl rfl (by omega) (by omega) (by omega) fun e w1 hN1 hb1 ho1 => ⟨⟨_, _, _⟩, rfl, ?_⟩
  rw [bys_rep] at hb1
  have hat := hN1.at_
  refine ⟨fun l' w' => match l' with | [.u8 c, .i _ x] => ∃ (k : Nat) (ob : List UInt8), x = k ∧ k ≤ 33 ∧ ob.length = k ∧ Blk w' e (bys (ob ++ List.replicate (33 - k) 0)) 5 ∧ (c = 0 ∨ c = 1) ∧ le ob + 256 ^ k * c.toNat = 2 * le (la.take k) + bit.toNat ∧ Mod (fun y => y = e) w1 w' | _ => False, fun l' _ => match l' with | [.u8 _, .i _ x] => (33 - x).toNat | _ => 0,
    ⟨0, [], rfl, by omega, rfl, by simpa using hb1, hb, by simp [le], Mod.refl _ _⟩, ?_⟩
  rintro c x w2 ⟨k, ob, rfl, hk, hob, hb2, hc, hv2, hm2⟩
  have ha2 : SlRd w2 a 1 (bys la) := (ha.no hN1.mod).mod hm2 fun y hy e' => by have := hal y hy; omega
  refine condK_i (fun hlt => ?_) fun hge => ?_
  · have hk' : k < 33 := by simp at hlt; omega
    obtain ⟨aa, eaa, hra⟩ := rd_u8 ha2 (i := k) (by omega)
    rw [eaa]
    simp only [Int.toNat_natCast]
    refine ⟨⟨by omega, by omega⟩, _, hra, by omega, ⟨by omega, by show (k : Int) < ((33 : Nat) : Int); omega⟩, ?_⟩
    refine semU_at (b := e) (n := k) (by kernel_rfl) (by kernel_rfl) rfl hb2 (by simp [hob]; omega) fun w3 ht3 hb3 => ?_
    rw [bys_set] at hb3
    obtain ⟨aa', eaa', hra'⟩ := rd_u8 (ha2.mod ht3.mod fun y hy e' => by have := hal y hy; omega) (i := k) (by omega)
    rw [eaa] at eaa'; cases eaa'
    obtain ⟨d1, d2⟩ := dbl_step (a := la) (k := k) (by omega) hob hc hv2
    have e2 : (ob ++ List.replicate (33 - k) 0).set k (shlU8 (la[k]'(by omega)) 1 ||| c) = (ob ++ [shlU8 (la[k]'(by omega)) 1 ||| c]) ++ List.replicate (33 - (k + 1)) 0 := by
      rw [show 33 - k = (33 - (k + 1)) + 1 by omega, List.replicate_succ, set_mid hob.symm, List.append_assoc]; rfl
    have hb3' : Blk w3 e (bys ((ob ++ [shlU8 (la[k]'(by omega)) 1 ||| c]) ++ List.replicate (33 - (k + 1)) 0)) 5 := e2 ▸ hb3
    refine ⟨⟨by omega, by omega⟩, _, hra', by omega, ⟨k + 1, _, wrap_nat (by omega), by omega, by simp [hob], hb3', d2, d1, hm2.tr ht3.mod⟩, ?_⟩
    rw [wrap_nat (by omega)]; (try simp only []); omega
  · have hk' : k = 33 := by simp at hge; omega
    subst hk'
    rw [Nat.sub_self, List.replicate_zero, List.append_nil] at hb2
    rw [List.take_of_length_le (by omega)] at hv2
    have hle : le ob = 2 * le la + bit.toNat := by
      have h1 := le_lt ob
      rcases hc with rfl | rfl
      · simpa using hv2
      · have : (1 : UInt8).toNat = 1 := rfl
        rw [this, Nat.mul_one] at hv2; omega
    exact ⟨⟨some ⟨e, 0, none⟩, 33, 33⟩, ob, rfl, own_whole (n := 33) (k := 1) hb2 (by simp [hob]), hob, rfl, hle, FB.new (by omega), by have := RB.blk0 (n := 33) hb2 (by omega); rwa [hob] at this, hN1.mod.fresh hm2 fun x hx => by omega⟩
theorem c_rMinus {w : World} {a b : Slc} {la lb : List UInt8} (ha : SlRd w a 1 (bys la)) (hal : ∀ x, a.blk = some x → x < w.heap.size) (hl : la.length = 33) (hb : SlRd w b 1 (bys lb)) (hbl : ∀ x, b.blk = some x → x < w.heap.size) (hl' : lb.length = 33) (hv : le lb ≤ le la) :
    Calls Tryz.prog 41 #[.slice a.a a.len a.cap, .slice b.a b.len b.cap] w (Ret fun v w' => ∃ (x : Slc) (l : List UInt8), v = x.val ∧ Sh.Own w' x 1 (bys l) ∧ l.length = 33 ∧ x.cap = 33 ∧ le l = le la - le lb ∧ FB w x ∧ RB w' x ∧ Mod NoB w w') := by
  refine call41 _ _ ?_
  unfold sh41
  obtain ⟨i5', h51, h52, h53, h54⟩ := i5
  have hna := rd_len8 ha; have hnb := rd_len8 hb
  refine sem_makeSlice (l := 33) (c := 33) u26 h51 h52 h53 rfl h54 rfl rfl (by omega) (by omega) (by omega) fun e w1 hN1 hb1 ho1 => ⟨⟨_, _, _⟩, rfl, ?_⟩
  rw [bys_rep] at hb1
  have hat := hN1.at_
  refine ⟨fun l' w' => match l' with | [.i _ c, .i _ x] => ∃ (k : Nat) (wb : Nat) (ob : List UInt8), c = wb ∧ wb ≤ 1 ∧ x = k ∧ k ≤ 33 ∧ ob.length = k ∧ Blk w' e (bys (ob ++ List.replicate (33 - k) 0)) 5 ∧ le (la.take k) + 256 ^ k * wb = le ob + le (lb.take k) ∧ Mod (fun y => y = e) w1 w' | _ => False, fun l' _ => match l' with | [.i _ _, .i _ x] => (33 - x).toNat | _ => 0,
    ⟨0, 0, [], rfl, by omega, rfl, by omega, rfl, by simpa using hb1, by simp [le], Mod.refl _ _⟩, ?_⟩
  rintro c x w2 ⟨k, wb, ob, rfl, hwb, rfl, hk, hob, hb2, hv2, hm2⟩
  have ha2 : SlRd w2 a 1 (bys la) := (ha.no hN1.mod).mod hm2 fun y hy e' => by have := hal y hy; omega
  have hbb2 : SlRd w2 b 1 (bys lb) := (hb.no hN1.mod).mod hm2 fun y hy e' => by have := hbl y hy; omega
  refine condK_i (fun hlt => ?_) fun hge => ?_
  · have hk' : k < 33 := by simp at hlt; omega
    obtain ⟨aa, eaa, hra⟩ := rd_u8 ha2 (i := k) (by omega)
    obtain ⟨ab, eab, hrb⟩ := rd_u8 hbb2 (i := k) (by omega)
    rw [eaa, eab]
    simp only [Int.toNat_natCast]
    have hx := (la[k]'(by omega)).toNat_lt; have hy := (lb[k]'(by omega)).toNat_lt
    obtain ⟨b', d, hb1', hd, hs, hc1, hc2⟩ := sub_byte hx hy hwb
    have e1 : IntKind.i64.wrap (IntKind.i64.wrap (((la[k]'(by omega)).toNat : Int) - ((lb[k]'(by omega)).toNat : Int)) - (wb : Int)) = ((la[k]'(by omega)).toNat : Int) - ((lb[k]'(by omega)).toNat : Int) - wb := by
      rw [show IntKind.i64.wrap (((la[k]'(by omega)).toNat : Int) - ((lb[k]'(by omega)).toNat : Int)) = ((la[k]'(by omega)).toNat : Int) - ((lb[k]'(by omega)).toNat : Int) from wrap_i64 (by omega), wrap_i64 (by omega)]
    refine ⟨⟨by omega, by omega⟩, ⟨by omega, by omega⟩, _, hra.drew, _, hrb.drew, ?_⟩
    rw [e1]
    refine ⟨fun l' w' => l' = [.i .i64 b', .i .i64 d] ∧ w' = w2.drew, condK_i (fun h => ⟨?_, rfl⟩) fun h => ⟨?_, rfl⟩, ?_⟩
    · obtain ⟨q1, q2⟩ := hc1 (by simpa using h)
      rw [wrap_i64 (by omega), ← q2, q1]; rfl
    · obtain ⟨q1, q2⟩ := hc2 (by simpa using h)
      rw [← q2, q1]; rfl
    rintro y1 y2 w3 ⟨he, rfl⟩
    cases he
    refine ⟨⟨by omega, by show (k : Int) < ((33 : Nat) : Int); omega⟩, ?_⟩
    refine semU_at (b := e) (n := k) (by kernel_rfl) (by kernel_rfl) rfl hb2.drew (by simp [hob]; omega) fun w4 ht4 hb4 => ?_
    rw [bys_set] at hb4
    have ed : (u8OfInt (d : Int)).toNat = d := by unfold u8OfInt; rw [UInt8.toNat_ofNat']; omega
    have e2 : (ob ++ List.replicate (33 - k) 0).set k (u8OfInt (d : Int)) = (ob ++ [u8OfInt (d : Int)]) ++ List.replicate (33 - (k + 1)) 0 := by
      rw [show 33 - k = (33 - (k + 1)) + 1 by omega, List.replicate_succ, set_mid hob.symm, List.append_assoc]; rfl
    rw [e2] at hb4
    refine ⟨⟨k + 1, b', _, rfl, hb1', wrap_nat (by omega), by omega, by simp [hob], hb4, subB_step (by omega) (by omega) hob hv2 (by rw [ed]; exact hs), hm2.dr.tr ht4.mod⟩, ?_⟩
    rw [wrap_nat (by omega)]; (try simp only []); omega
  · have hk' : k = 33 := by simp at hge; omega
    subst hk'
    rw [Nat.sub_self, List.replicate_zero, List.append_nil] at hb2
    rw [List.take_of_length_le (by omega), List.take_of_length_le (by omega), ← hl] at hv2
    exact ⟨⟨some ⟨e, 0, none⟩, 33, 33⟩, ob, rfl, own_whole (n := 33) (k := 1) hb2 (by simp [hob]), hob, rfl, subB_end (by omega) (by omega) hv2 hv, FB.new (by omega), by have := RB.blk0 (n := 33) hb2 (by omega); rwa [hob] at this, hN1.mod.fresh hm2 fun x hx => by omega⟩

/-- the rest, bit by bit -/
theorem c_rRest {w : World} {b : Slc} {l : List UInt8} (hb : SlRd w b 1 (bys l)) (hbl : ∀ x, b.blk = some x → x < w.heap.size) (hn : l.length ≤ 1000000000) :
    Calls Tryz.prog 27 #[.slice b.a b.len b.cap] w (Ret fun v w' => ∃ x : Slc, v = x.val ∧ SlRd w' x 1 (bys (redN (le l))) ∧ FB w x ∧ RB w' x ∧ x.cap = 33 ∧ Mod NoB w w') := by
  refine call27 _ ?_
  unfold sh27
  obtain ⟨i5', h51, h52, h53, h54⟩ := i5
  have hnb := rd_len8 hb
  refine callK_ret c_rOrder ?_
  rintro v w1 ⟨x, rfl, hox, hfx, hm1⟩
  refine ⟨x, rfl, ?_⟩
  refine sem_byte (w0 := w) hox hfx hm1 (by rw [ordB_len]; omega) fun y w3 hoy hfy hm3 hyl => ?_
  have hly : (ordB ++ [0]).length = 33 := rfl
  refine sem_makeSlice (l := 33) (c := 33) u26 h51 h52 h53 rfl h54 rfl rfl (by omega) (by omega) (by omega) fun e w4 hN4 hb4 ho4 => ⟨⟨_, _, _⟩, rfl, ?_⟩
  rw [bys_rep] at ho4 hb4
  have hat4 := hN4.at_
  have hM4 := hm3.tr hN4.mod
  have e0 : IntKind.i64.wrap (IntKind.i64.wrap (8 * (b.len : Int)) - 1) = ((8 * b.len : Nat) : Int) - 1 := by rw [wrap_i64 (e := 8 * _) (by omega), wrap_i64 (by omega)]; omega
  rw [e0]
  have h0 : le l / 2 ^ (8 * b.len) = 0 := by
    have := le_lt l
    rw [hnb] at this
    exact Nat.div_eq_of_lt (by rw [Nat.pow_mul]; exact this)
  refine ⟨fun l' w' => match l' with | [.sl q, .i _ i] => ∃ (k : Nat) (ob : List UInt8), i = (k : Int) - 1 ∧ k ≤ 8 * b.len ∧ SlRd w' q 1 (bys ob) ∧ (∀ z, q.blk = some z → z < w'.heap.size) ∧ ob.length = 33 ∧ q.cap = 33 ∧ FB w q ∧ RB w' q ∧ le ob = le l / 2 ^ k % LO ∧ Mod NoB w4 w' | _ => False, fun l' _ => match l' with | [.sl _, .i _ i] => (i + 1).toNat | _ => 0,
    ⟨8 * b.len, _, rfl, by omega, ho4.rd, own_lt ho4, by simp, rfl, FB.new (by have := hm3.size; omega), RB.blk0 (n := 33) hb4 (by simp), by rw [le_zeros, h0]; rfl, Mod.refl _ _⟩, ?_⟩
  rintro q i w5 ⟨k, ob, rfl, hk, hq5, hql5, hob, hqc, hqf, hqr, hv5, hm5⟩
  have hM5 := hM4.tr hm5
  have hyr : ∀ w', Mod NoB w3 w' → SlRd w' y 1 (bys (ordB ++ [0])) := fun w' hm => hoy.rd.no hm
  have hylt : ∀ w', Mod NoB w3 w' → ∀ z, y.blk = some z → z < w'.heap.size := fun w' hm z hz => Nat.lt_of_lt_of_le (own_lt hoy z hz) hm.size
  refine condK_i (fun hge => ?_) fun hlt => ?_
  · have hk1 : 0 < k := by simp at hge; omega
    have ek : ((k : Int) - 1) = ((k - 1 : Nat) : Int) := by omega
    rw [ek]
    have e1 : IntKind.i64.wrap (Int.tdiv ((k - 1 : Nat) : Int) 8) = (((k - 1) / 8 : Nat) : Int) := by
      rw [show Int.tdiv ((k - 1 : Nat) : Int) 8 = (((k - 1) / 8 : Nat) : Int) from rfl, wrap_i64 (by omega)]
    have e2 : (u64OfInt (Int.tmod ((k - 1 : Nat) : Int) 8)).toNat = (k - 1) % 8 := by
      rw [show Int.tmod ((k - 1 : Nat) : Int) 8 = (((k - 1) % 8 : Nat) : Int) from rfl, u64_nat, UInt64.toNat_ofNat', Nat.mod_eq_of_lt (by omega)]
    rw [e1, e2]
    simp only [Int.toNat_natCast]
    obtain ⟨ab, eab, hrb⟩ := rd_u8 (hb.no hM5) (i := (k - 1) / 8) (by omega)
    rw [getD_at (d := 0) (by omega : (k - 1) / 8 < l.length)] at hrb
    rw [eab]
    obtain ⟨hb01, hbv⟩ := bit_at l (k - 1)
    have hlo : le ob < LO := by rw [hv5]; exact Nat.mod_lt _ LO_pos
    have hLO : LO * 2 + 2 < 256 ^ 33 := by decide +kernel
    refine ⟨by omega, ⟨by omega, by omega⟩, _, hrb, by omega, by omega, ?_⟩
    refine callK_ret (c_rDouble hq5 hql5 hob hb01 (by rw [hbv]; omega)) ?_
    rintro v w6 ⟨x5, l5, rfl, ho6, hl5, hc5, hle5, hf5, hr5, hm6⟩
    refine ⟨x5, rfl, ?_⟩
    have hM6 := (hN4.mod.tr hm5).tr hm6
    refine callK_ret (c_rLess ho6.rd (hyr w6 hM6) hl5 hly) ?_
    rintro v w7 ⟨rfl, hm7⟩
    have hM7 := hM6.tr hm7
    rw [hbv] at hle5
    have hstep := mod_dbl (w := le l / 2 ^ k) (bit := le l / 2 ^ (k - 1) % 2) (by omega) hv5
    have hval : 2 * (le l / 2 ^ k) + le l / 2 ^ (k - 1) % 2 = le l / 2 ^ (k - 1) := by
      have e4 : le l / 2 ^ k = le l / 2 ^ (k - 1) / 2 := by
        rw [Nat.div_div_eq_div_mul, ← Nat.pow_succ]
        show _ = le l / 2 ^ (k - 1 + 1)
        rw [Nat.sub_add_cancel hk1]
      omega
    rw [hval, ← hle5] at hstep
    rw [le_ord0]
    refine ⟨_, rfl, condK_i (fun h => ?_) fun h => ?_⟩
    · have hge' : ¬ le l5 < LO := by simpa using h
      rw [if_neg hge'] at hstep
      have h6 := ho6.no hm7
      refine callK_ret (c_rMinus h6.rd (own_lt h6) hl5 (hyr w7 hM7) (hylt w7 hM7) hly (by rw [le_ord0]; omega)) ?_
      rintro v w8 ⟨x7, l7, rfl, ho8, hl7, hc7, hle7, hf7, hr7, hm8⟩
      rw [le_ord0] at hle7
      refine ⟨x7, rfl, ⟨k - 1, l7, by rw [wrap_i64 (by omega)], by omega, ho8.rd, own_lt ho8, hl7, hc7, hf7.le (((hM5.tr hm6).tr hm7).size), hr7, by rw [hle7, hstep], ((hm5.tr hm6).tr hm7).tr hm8⟩, ?_⟩
      rw [wrap_i64 (by omega)]; (try simp only []); omega
    · have hlt' : le l5 < LO := by simpa using h
      rw [if_pos hlt'] at hstep
      have h6 := ho6.no hm7
      refine ⟨⟨k - 1, l5, by rw [wrap_i64 (by omega)], by omega, h6.rd, own_lt h6, hl5, hc5, hf5.le hM5.size, hr5.no hm7, hstep, (hm5.tr hm6).tr hm7⟩, ?_⟩
      rw [wrap_i64 (by omega)]; (try simp only []); omega
  · have hk0 : k = 0 := by simp at hlt; omega
    subst hk0
    rw [Nat.pow_zero, Nat.div_one] at hv5
    have hq := rd_len8 hq5
    have hcq : cutSl q 1 0 32 q.cap = ⟨q.a, 32, q.cap⟩ := cutSl0 (by omega) (by omega)
    refine ⟨⟨by omega, by omega⟩, cutSl q 1 0 32 q.cap, rfl, ?_, ?_, ?_, ?_, hM5⟩
    rotate_left
    · rw [hcq]; exact fun x hx => hqf x hx
    · rw [hcq]; exact hqr.cut0 (by omega)
    · rw [hcq]; exact hqc
    have hc := hq5.cut (l := 0) (n := 32) (m := q.cap) (by omega) (by omega) (by omega) (Nat.le_refl _)
    rw [bys_cut, List.drop_zero] at hc
    have : redN (le l) = ob.take (32 - 0) := by
      refine le_inj (by simp [hob]) ?_
      rw [le_redN, ← hv5]
      have e1 : le ob = le (ob.take 32) + 256 ^ 32 * le (ob.drop 32) := by
        conv => lhs; rw [← List.take_append_drop 32 ob]
        rw [le_append, List.length_take, Nat.min_eq_left (by omega)]
      have h1 : le ob < 256 ^ 32 := by rw [hv5]; exact Nat.lt_trans (Nat.mod_lt _ LO_pos) LO_lt
      rcases Nat.eq_zero_or_pos (le (ob.drop 32)) with h | h
      · rw [h] at e1; show le ob = le (ob.take 32); omega
      · have : 256 ^ 32 ≤ 256 ^ 32 * le (ob.drop 32) := Nat.le_mul_of_pos_right _ h
        omega
    rw [this]
    exact hc
theorem c_rReduce {w : World} {b : Slc} {l : List UInt8} (hb : SlRd w b 1 (bys l)) (hbl : ∀ x, b.blk = some x → x < w.heap.size) :
    Calls Tryz.prog 11 #[.slice b.a b.len b.cap] w (Ret fun v w' => ∃ x : Slc, v = x.val ∧ SlRd w' x 1 (bys (redT l)) ∧ Mod NoB w w') := by
  refine call11 _ ?_
  unfold sh11
  have hn := rd_len8 hb
  refine condK_i (fun h => ?_) fun h => ?_
  · have : l.length > 64 := by simp at h; omega
    exact ⟨⟨none, 0, 0⟩, rfl, by rw [redT, if_pos this]; exact rd_nil _ _, Mod.refl _ _⟩
  · have h' : ¬ l.length > 64 := by simp at h; omega
    refine callK_ret (c_rRest hb hbl (by omega)) ?_
    rintro v w1 ⟨x, rfl, hx, -, -, -, hm⟩
    exact ⟨x, rfl, x, rfl, by rw [redT, if_neg h']; exact hx, hm⟩
theorem c_rRight {w : World} {b : Slc} {l : List UInt8} (hb : SlRd w b 1 (bys l)) (hbl : ∀ x, b.blk = some x → x < w.heap.size) :
    Calls Tryz.prog 13 #[.slice b.a b.len b.cap] w (Ret fun v w' => v = .bool (decide (l.length = 32 ∧ le l < LO)) ∧ Mod NoB w w') := by
  refine call13 _ ?_
  unfold sh13
  obtain ⟨i5', h51, h52, h53, h54⟩ := i5
  have hn := rd_len8 hb
  refine condK_i (fun h => ?_) fun h => ?_
  · have h32 : l.length = 32 := by simp at h; omega
    refine sem_lit0 u26 h51 fun e w1 hN1 => ⟨⟨_, _, _⟩, rfl, ?_⟩
    refine sem_append u26 h51 h52 h53 rfl h54 (s := ⟨some ⟨e, 0, none⟩, 0, 0⟩) (own_zero _ _ _) (hb.no hN1.mod) (bys_one _) (by simp only []; omega) (by simp only []; omega) fun x1 w2 ho2 hl2 hb2 hm2 => ⟨x1, rfl, ?_⟩
    have hm2' : Mod NoB w w2 := hN1.mod.tr (hm2.mono fun x _ hx => by simp at hx)
    have hat := hN1.at_
    have hf2 : FB w x1 := fun x hx => by
      rcases hb2 with h | h
      · rw [h] at hx; simp at hx
      · rw [h] at hx; cases hx; exact hN1.mod.size
    rw [List.nil_append] at ho2
    refine sem_byte (w0 := w) ho2 hf2 hm2' (by omega) fun x3 w4 ho4 hf4 hm4 hl4 => ?_
    refine callK_ret c_rOrder ?_
    rintro v w5 ⟨x4, rfl, ho5, hf5, hm5⟩
    refine ⟨x4, rfl, ?_⟩
    refine sem_byte (w0 := w4) ho5 hf5 hm5 (by rw [ordB_len]; omega) fun x6 w7 ho7 hf7 hm7 hl7 => ?_
    refine callK_ret (c_rLess (ho4.no hm7).rd ho7.rd (by simp [h32]) rfl) ?_
    rintro v w8 ⟨rfl, hm8⟩
    refine ⟨_, rfl, ?_, (hm4.tr hm7).tr hm8⟩
    rw [le_ord0, le_snoc]
    congr 1
    rw [decide_eq_decide]
    have : (0 : UInt8).toNat = 0 := rfl
    rw [this, Nat.mul_zero, Nat.add_zero]
    exact ⟨fun h => ⟨h32, h⟩, fun h => h.2⟩
  · have h32 : l.length ≠ 32 := by intro e; simp at h; omega
    exact ⟨by simp [h32], Mod.refl _ _⟩
theorem c_rBits {w : World} {b : Slc} {l : List UInt8} (hb : SlRd w b 1 (bys l)) :
    Calls Tryz.prog 15 #[.slice b.a b.len b.cap] w (Ret fun v w' => ∃ x : Slc, v = x.val ∧ SlRd w' x 1 (bls (bitsT l)) ∧ Mod NoB w w') := by
  refine call15 _ ?_
  unfold sh15
  have hn := rd_len8 hb
  refine condK_i (fun h => ?_) fun h => ?_
  · have : ¬ l.length = 32 := by simp at h; omega
    exact ⟨⟨none, 0, 0⟩, rfl, by rw [bitsT, if_neg this]; exact rd_nil _ _, Mod.refl _ _⟩
  have h32 : l.length = 32 := by simp at h; omega
  refine ⟨fun l' w' => match l' with | [.sl q, .i _ i] => ∃ k : Nat, i = k ∧ k ≤ 256 ∧ Sh.Own w' q 1 (bls ((List.range k).map (bitOf l))) ∧ FB w q ∧ Mod NoB w w' | _ => False, fun l' _ => match l' with | [.sl _, .i _ i] => (256 - i).toNat | _ => 0,
    ⟨0, rfl, by omega, own_nil _ _, FB.nil _, Mod.refl _ _⟩, ?_⟩
  rintro q i w1 ⟨k, rfl, hk, hq, hfq, hm1⟩
  refine condK_i (fun hlt => ?_) fun hge => ?_
  · have hk' : k < 256 := by simp at hlt; omega
    have e1 : IntKind.i64.wrap (Int.tdiv (k : Int) 8) = ((k / 8 : Nat) : Int) := by
      rw [show Int.tdiv (k : Int) 8 = ((k / 8 : Nat) : Int) from rfl, wrap_i64 (by omega)]
    have e2 : (u64OfInt (Int.tmod (k : Int) 8)).toNat = k % 8 := by
      rw [show Int.tmod (k : Int) 8 = ((k % 8 : Nat) : Int) from rfl, u64_nat, UInt64.toNat_ofNat', Nat.mod_eq_of_lt (by omega)]
    rw [e1, e2]
    simp only [Int.toNat_natCast]
    obtain ⟨ab, eab, hrb⟩ := rd_u8 (hb.no hm1) (i := k / 8) (by omega)
    rw [getD_at (d := 0) (by omega : k / 8 < l.length)] at hrb
    rw [eab]
    refine ⟨by omega, ⟨by omega, by omega⟩, _, hrb, by omega, by omega, ?_⟩
    show semK _ (Instr.buildSlice _ 1 #[(0, (.bool (bitOf l k)))]) _ _
    refine sem_truth (s := q) hq (by simp; omega) fun q' w2 ho2 hl2 hm2 hb2 => ⟨⟨k + 1, wrap_nat (by omega), by omega, ?_, ?_, hfq.mod hm1 hm2⟩, ?_⟩
    · rw [List.range_succ, List.map_append]; exact ho2
    · intro x hx
      rcases hb2 with h | ⟨y, h, hy⟩
      · exact hfq x (by rw [← h]; exact hx)
      · rw [h] at hx; cases hx; have := hm1.size; omega
    · rw [wrap_nat (by omega)]; (try simp only []); omega
  · have : k = 256 := by simp at hge; omega
    subst this
    have hbt : (List.range 256).map (bitOf l) = bitsT l := by rw [bitsT, if_pos h32]
    rw [hbt] at hq
    exact ⟨q, rfl, hq.rd, hm1⟩
end Go.Proofs.YtknbihogadcnpaaGreat
