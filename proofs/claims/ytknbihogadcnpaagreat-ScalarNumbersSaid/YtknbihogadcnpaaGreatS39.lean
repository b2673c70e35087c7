/- Scalars: the law of numbers written by hand. -/
import Derived.Test.YtknbihogadcnpaaGreatS38
set_option linter.unusedSimpArgs false
set_option linter.unusedVariables false
set_option maxRecDepth 100000
namespace Go.Proofs.YtknbihogadcnpaaGreat
open Go Go.Sh

/-- append(s, 0) where bytes lie behind: others that hold bytes still do -/
theorem sem_append_rb {K : Value → World → Prop} {w : World} {s x : Slc} {ys : List UInt8} (hs : RB w s) (hx : SlRd w x 1 (bys ys)) (hx0 : 0 < x.len) (hm : s.len + x.len ≤ 1000000000)
    (hK : ∀ (s' : Slc) (w' : World) (l : List UInt8), SlRd w' s' 1 (bys l) → (∀ y, s'.blk = some y → y < w'.heap.size) → (∀ t, RB w t → RB w' t) → Mod (fun b => s.blk = some b) w w' → K (.slice s'.a s'.len s'.cap) w') :
    semK Tryz.prog (Builtin.append_ #[22, 22] 22 #[.slice s.a s.len s.cap, .slice x.a x.len x.cap]) w K := by
  obtain ⟨i5', h51, h52, h53, h54⟩ := i5
  obtain ⟨l, hl⟩ := hs.rd
  have hln := rd_len8 hl
  have hxl := rd_len8 hx
  rcases Nat.lt_or_ge s.cap (s.len + x.len) with hroom | hroom
  · by_cases hc : s.cap = 0
    · have ho : Sh.Own w s 1 (bys l) := ⟨hl.1, hs.1, .inl hc⟩
      refine sem_append u26 h51 h52 h53 rfl h54 ho hx (bys_one _) (by omega) (by omega) fun s' w2 ho2 hl2 hb2 hm2 => ?_
      rw [← bys_app] at ho2
      exact hK s' w2 _ ho2.rd (own_lt ho2) (fun t ht => ht.mod hm2 fun b hb e => by rw [Slc.blk_zero hc] at e; cases e) hm2
    · obtain ⟨b, o, r, T, e1, e2, e3, e4⟩ := hs.2.resolve_left hc
      have ho : Sh.Own w s 1 (bys l) := by
        refine ⟨hl.1, hs.1, .inr ⟨b, o, r, T, e1, e2, by omega, ?_⟩⟩
        apply List.ext_getElem?
        intro j
        rcases Nat.lt_or_ge j s.len with h | h
        · rw [List.getElem?_take, if_pos (by omega), List.getElem?_drop]
          obtain ⟨a, ea, hr⟩ := rd_u8 hl (i := j) (by omega)
          rw [e1] at ea; cases ea
          rw [addl, Nat.mul_one] at hr
          have := hr 0 _ rfl
          rw [addl, Nat.add_zero, e2.cell] at this
          rw [this, bys_at (by omega)]
        · rw [List.getElem?_eq_none (by simp; omega), List.getElem?_eq_none (by simp; omega)]
      refine sem_append2 u26 h51 h52 h53 rfl h54 ho hx (bys_one _) (by omega) (by omega) (fun h => by omega) fun _ c w2 ho2 hc2 hm2 hs2 => ?_
      rw [← bys_app] at ho2
      exact hK ⟨some ⟨w.heap.size, 0, none⟩, s.len + x.len, c⟩ w2 _ ho2.rd (own_lt ho2) (fun t ht => ht.no hm2) (hm2.mono fun _ _ h => h.elim)
  · have hc : ¬ s.cap = 0 := by omega
    obtain ⟨b, o, r, T, e1, e2, e3, e4⟩ := hs.2.resolve_left hc
    have hfx := run_firstCells (P := Tryz.prog) hx
    have hfit : (o + s.len) + (bys ys).length ≤ r.length := by simp; omega
    obtain ⟨w', hst, hb', ht'⟩ := store_blk (P := Tryz.prog) e2 hfit (bys_one ys)
    have hblk := Slc.blk_of e1 (by omega)
    have hput : ∀ i : Nat, (∃ c : UInt8, r[i]? = some (.int .u8 c.toNat)) → ∃ c : UInt8, (putAt r (o + s.len) (bys ys))[i]? = some (.int .u8 c.toNat) := by
      intro i ⟨c, hci⟩
      have hir : i < r.length := (List.getElem?_eq_some_iff.1 hci).1
      unfold putAt
      have hl1 : (r.take (o + s.len)).length = o + s.len := by rw [List.length_take]; omega
      rcases Nat.lt_or_ge i (o + s.len) with h | h
      · refine ⟨c, ?_⟩
        rw [List.append_assoc, List.getElem?_append_left (by omega), List.getElem?_take, if_pos h, hci]
      · rcases Nat.lt_or_ge i (o + s.len + ys.length) with h' | h'
        · refine ⟨ys[i - (o + s.len)]'(by omega), ?_⟩
          rw [List.append_assoc, List.getElem?_append_right (by omega), hl1, List.getElem?_append_left (by simp; omega), bys_at (by omega)]
        · refine ⟨c, ?_⟩
          rw [List.getElem?_append_right (by simp; omega), List.getElem?_drop]
          have : o + s.len + (bys ys).length + (i - (r.take (o + s.len) ++ bys ys).length) = i := by simp; omega
          rw [this, hci]
    have hkeep : ∀ t, RB w t → RB w' t := by
      intro t ht
      obtain ⟨g1, g2⟩ := ht
      refine ⟨g1, ?_⟩
      by_cases hct : t.cap = 0
      · exact .inl hct
      obtain ⟨b2, o2, r2, T2, f1, f2, f3, f4⟩ := g2.resolve_left hct
      by_cases hbb : b2 = b
      · subst hbb
        have hr := f2.uniq e2
        subst hr
        exact .inr ⟨b2, o2, _, T, f1, hb', by rw [putAt_len hfit]; exact f3, fun j hj => hput _ (f4 j hj)⟩
      · exact .inr ⟨b2, o2, r2, T2, f1, f2.mod ht'.mod hbb, f3, f4⟩
    have hs2 : RB w' ⟨s.a, s.len + x.len, s.cap⟩ := (hkeep s hs).cut0 hroom
    obtain ⟨l2, hl2⟩ := hs2.rd
    refine ⟨.slice s.a (s.len + x.len) s.cap, w', ?_, hK ⟨s.a, s.len + x.len, s.cap⟩ w' l2 hl2 hs2.lt hkeep (ht'.mod.mono fun y _ hy => by rw [hy]; exact hblk)⟩
    have ea : (⟨b, o, none⟩ : Addr).add s.len = ⟨b, o + s.len, none⟩ := addl _ _ _
    simp [Builtin.append_, run_underlying u26, sizeOf, typeInfo, h51, h53, Builtin.lenOf, hroom, hfx, e1, ea, hst]

theorem ps_and15 {n : Int} (h : -3 ≤ n ∧ n < 4) {ox oy : Operand} {K : Value → Prop} (hk : ∀ m : Int, K (.int .i64 m)) :
    pureSem Tryz.prog (do eqGuard .and 3 ox oy (.int .i64 n) (.int .i64 15); binOp .and 3 (.int .i64 n) (.int .i64 15)) K := by
  have : n = -3 ∨ n = -2 ∨ n = -1 ∨ n = 0 ∨ n = 1 ∨ n = 2 ∨ n = 3 := by omega
  rcases this with rfl | rfl | rfl | rfl | rfl | rfl | rfl <;> exact ⟨.int .i64 _, fun w => rfl, hk _⟩

/-- what the loops keep -/
structure Kept (W w : World) (all full : Slc) (ss : List Slc) : Prop where
  own : Sh.Own w all 1 (ss.map Slc.val)
  row : ∀ s ∈ ss, RB w s ∧ 32 ≤ s.cap ∧ s.len ≤ 64 ∧ FB W s
  hall : FB W all
  hfull : RB w full
  cap : full.cap = 66
  ffull : FB W full
  mod : Mod NoB W w
  ne : ∀ s ∈ ss, ∀ b, s.blk = some b → all.blk ≠ some b
  nef : ∀ b, full.blk = some b → all.blk ≠ some b
theorem Kept.fresh {W w w' : World} {all full : Slc} {ss : List Slc} {S : Nat → Prop} (h : Kept W w all full ss) (hm : Mod S w w') (hs : ∀ b, S b → w.heap.size ≤ b) : Kept W w' all full ss :=
  ⟨h.own.mod hm fun b hb e => by have := own_lt h.own b hb; have := hs b e; omega, fun s hss => ⟨(h.row s hss).1.mod hm (fun b hb e => by have := (h.row s hss).1.lt b hb; have := hs b e; omega), (h.row s hss).2⟩, h.hall,
    h.hfull.mod hm fun b hb e => by have := h.hfull.lt b hb; have := hs b e; omega, h.cap, h.ffull, h.mod.fresh hm fun b hb => Nat.le_trans h.mod.size (hs b hb), h.ne, h.nef⟩
theorem Kept.no {W w w' : World} {all full : Slc} {ss : List Slc} (h : Kept W w all full ss) (hm : Mod NoB w w') : Kept W w' all full ss := h.fresh hm fun _ h => h.elim
theorem Kept.at {W w : World} {all full : Slc} {ss : List Slc} (h : Kept W w all full ss) {i : Nat} (hi : i < ss.length) : ∃ a, all.a = some a ∧ Rd w (a.add (i * 1)) [ss[i].val] := rd_slc h.own.rd hi
theorem rb_of_new {W w w' : World} {x : Slc} {l : List UInt8} (h : Sh.Own w x 1 (bys l)) (hc : x.cap = x.len) (hl : l.length = 32) (hf : FB W x) : RB w x ∧ 32 ≤ x.cap ∧ x.len ≤ 64 ∧ FB W x := by
  have := rd_len8 h.rd
  exact ⟨RB.of h hc, by omega, by omega, hf⟩
theorem step_law3 {w : World} {s : Slc} {pan : List PanicEntry → World → Prop} {K : Bool → World → Prop} (h : ∃ l, SlRd w s 1 (bys l)) (hl : ∀ x, s.blk = some x → x < w.heap.size) (hK : ∀ w', Mod NoB w w' → K true w') :
    callK Tryz.prog 3 [.slice s.a s.len s.cap] w pan fun v w' => ∃ x : Bool, v = .bool x ∧ K x w' := by
  obtain ⟨l, h⟩ := h
  exact callK_ret (law_reduces h hl) fun v w' ⟨e, hm⟩ => ⟨true, e, hK w' hm⟩
theorem step_law4 {w : World} {a b c : Slc} {pan : List PanicEntry → World → Prop} {K : Bool → World → Prop} (ha : ∃ l, SlRd w a 1 (bys l)) (hal : ∀ x, a.blk = some x → x < w.heap.size) (hb : ∃ l, SlRd w b 1 (bys l)) (hbl : ∀ x, b.blk = some x → x < w.heap.size)
    (hc : ∃ l, SlRd w c 1 (bys l)) (hcl : ∀ x, c.blk = some x → x < w.heap.size) (hK : ∀ w', Mod NoB w w' → K true w') :
    callK Tryz.prog 4 [.slice a.a a.len a.cap, .slice b.a b.len b.cap, .slice c.a c.len c.cap] w pan fun v w' => ∃ x : Bool, v = .bool x ∧ K x w' := by
  obtain ⟨la, ha⟩ := ha; obtain ⟨lb, hb⟩ := hb; obtain ⟨lc, hc⟩ := hc
  exact callK_ret (law_muls ha hal hb hbl hc hcl) fun v w' ⟨e, hm⟩ => ⟨true, e, hK w' hm⟩
theorem onS {x : Option Addr} {a : Addr} {K : Addr → Prop} (h : x = some a) (hk : K a) : onSome x K := by rw [h]; exact hk

theorem law_scalarNumbers {W : World} : Calls Tryz.prog 5 #[] W (Ret fun v w' => v = .bool true ∧ Mod NoB W w') := by
  refine call5 ?_
  unfold sh5
  obtain ⟨i5', h51, h52, h53, h54⟩ := i5
  obtain ⟨i26', h261, h262, h263, h264⟩ := i26
  -- numbers about L and 0
  refine ⟨fun l' w' => match l' with | [.sl q, .i _ n] => ∃ (k : Nat) (ss : List Slc), n = (k : Int) - 3 ∧ k ≤ 7 ∧ ss.length = 2 * k ∧ Sh.Own w' q 1 (ss.map Slc.val) ∧ (∀ s ∈ ss, RB w' s ∧ 32 ≤ s.cap ∧ s.len ≤ 64 ∧ FB W s) ∧ FB W q ∧ Mod NoB W w' ∧ (∀ s ∈ ss, ∀ b, s.blk = some b → q.blk ≠ some b) | _ => False, fun l' _ => match l' with | [.sl _, .i _ n] => (4 - n).toNat | _ => 0,
    ⟨0, [], rfl, by omega, rfl, own_nil _ _, fun s h => by simp at h, FB.nil _, Mod.refl _ _, fun s h => by simp at h⟩, ?_⟩
  rintro q n w1 ⟨k, ss, rfl, hk, hss, hq, hrow, hfq, hm1, hne1⟩
  refine condK_i (fun hlt => ?_) fun hge => ?_
  · have hk' : k < 7 := by simp at hlt; omega
    refine callK_ret c_l ?_
    rintro v w2 ⟨x, rfl, hox, hcx, hfx, hm2⟩
    refine ⟨x, rfl, ps_and15 (by omega) fun m => ⟨m, rfl, ?_⟩⟩
    refine callK_ret c_one ?_
    rintro v w3 ⟨y, rfl, hoy, hcy, hfy, hm3⟩
    have hM3 := (hm1.tr hm2).tr hm3
    refine ⟨y, rfl, sem_rows [x, y] (by rfl) rfl (by decide) (by decide) fun r e w4 hN4 hr hbr hor => ⟨r, rfl, ?_⟩⟩
    have hM4 := hM3.tr hN4.mod
    have hrl : r.len = 2 := by rw [hr]
    have hql : q.len = 2 * k := by have := hq.1; simp at this; omega
    have hq4 := ((hq.no hm2).no hm3).no hN4.mod
    have z2 := hm2.size; have z3 := hm3.size; have z4 := hN4.mod.size
    refine sem_append u22 h261 h262 h263 rfl h264 hq4 hor.rd (fun v hv => by obtain ⟨z, _, rfl⟩ := List.mem_map.1 hv; rfl) (by omega) (by omega) fun q' w5 hq5 hl5 hb5 hm5 => ⟨q', rfl, ?_⟩
    have hM5 := hfq.mod hM4 hm5
    have hqr : ∀ s ∈ ss ++ [x, y], (RB w4 s ∧ 32 ≤ s.cap ∧ s.len ≤ 64 ∧ FB W s) ∧ ∀ b, s.blk = some b → b < w4.heap.size ∧ q.blk ≠ some b := by
      intro s hs
      have hqlt := own_lt hq
      rcases List.mem_append.1 hs with h | h
      · obtain ⟨g1, g2⟩ := hrow s h
        exact ⟨⟨((g1.no hm2).no hm3).no hN4.mod, g2⟩, fun b hb => ⟨by have := g1.lt b hb; omega, hne1 s h b hb⟩⟩
      · simp only [List.mem_cons, List.not_mem_nil, or_false] at h
        rcases h with rfl | rfl
        · exact ⟨rb_of_new (w' := w4) ((hox.no hm3).no hN4.mod) hcx (lB_len _) (hfx.le hm1.size), fun b hb => ⟨by have := own_lt hox b hb; omega, fun e => by have := hqlt b e; have := hfx b hb; omega⟩⟩
        · exact ⟨rb_of_new (w' := w4) (hoy.no hN4.mod) hcy (oneB_len _) (hfy.le (hm1.tr hm2).size), fun b hb => ⟨by have := own_lt hoy b hb; omega, fun e => by have := hqlt b e; have := hfy b hb; omega⟩⟩
    rw [show ((k : Int) - 3 + 1) = ((k + 1 : Nat) : Int) - 3 by omega, wrap_i64 (by omega)]
    refine ⟨⟨k + 1, ss ++ [x, y], rfl, by omega, by simp; omega, by rw [List.map_append]; exact hq5, fun s hs => ?_, hfq.step hM4.size hb5, hM5, fun s hs b hb => ?_⟩, by (try simp only []); omega⟩
    · obtain ⟨⟨g1, g2⟩, g3⟩ := hqr s hs
      exact ⟨g1.mod hm5 fun b hb => (g3 b hb).2, g2⟩
    · obtain ⟨_, g3⟩ := hqr s hs
      obtain ⟨g4, g5⟩ := g3 b hb
      rcases hb5 with h | h
      · rw [h]; exact g5
      · rw [h]; intro e; cases e; omega
  have hk7 : k = 7 := by simp at hge; omega
  subst hk7
  -- a full row
  refine sem_makeSlice (l := 66) (c := 66) u26 h51 h52 h53 rfl h54 rfl rfl (by omega) (by omega) (by omega) fun f w6 hN6 hbf hof => ⟨⟨_, _, _⟩, rfl, ?_⟩
  rw [bys_rep] at hbf
  have hatf := hN6.at_; have hszf := hN6.size
  refine ⟨fun l' w' => match l' with | [.i _ i] => ∃ (k : Nat) (l : List UInt8), i = k ∧ k ≤ 66 ∧ l.length = 66 ∧ Blk w' f (bys l) 5 ∧ Mod (fun y => y = f) w6 w' | _ => False, fun l' _ => match l' with | [.i _ i] => (66 - i).toNat | _ => 0, ⟨0, _, rfl, by omega, by simp, hbf, Mod.refl _ _⟩, ?_⟩
  rintro i w7 ⟨j, lf, rfl, hj, hlf, hb7, hm7⟩
  refine condK_i (fun hlt => ?_) fun hge => ?_
  · have hj' : j < 66 := by have h : (j : Int) < ((66 : Nat) : Int) := by simpa using hlt
                            omega
    simp only [Int.toNat_natCast]
    refine ⟨⟨by omega, by show (j : Int) < ((66 : Nat) : Int); omega⟩, ?_⟩
    refine semU_at (b := f) (n := j) (by kernel_rfl) (by kernel_rfl) rfl hb7 (by simp; omega) fun w8 ht8 hb8 => ?_
    rw [bys_set] at hb8
    refine ⟨⟨j + 1, _, wrap_nat (by omega), by omega, by simp [hlf], hb8, hm7.tr ht8.mod⟩, ?_⟩
    rw [wrap_nat (by omega)]; (try simp only []); omega
  have hfull : RB w7 ⟨some ⟨f, 0, none⟩, 66, 66⟩ := by have := RB.blk0 (n := 66) hb7 (by omega); rwa [hlf] at this
  have hfblk : ∀ b, Slc.blk ⟨some ⟨f, 0, none⟩, 66, 66⟩ = some b → b = f := fun b hb => by rw [Slc.blk_mk, if_neg (by omega)] at hb; cases hb; rfl
  have M67 : Mod NoB w1 w7 := hN6.mod.fresh hm7 fun y e => by omega
  have K7 : Kept W w7 q ⟨some ⟨f, 0, none⟩, 66, 66⟩ ss := by
    refine ⟨hq.no M67, fun s hs => ⟨(hrow s hs).1.no M67, (hrow s hs).2⟩, hfq, hfull, rfl, fun b hb => ?_, hm1.tr M67, hne1, fun b hb e => ?_⟩
    · have := hfblk b hb; have := hm1.size; omega
    · have := hfblk b hb; have := own_lt hq b e; omega
  refine ⟨⟨by omega, by show (32 : Int) ≤ ((66 : Nat) : Int); omega⟩, ?_, trivial⟩
  have K7d := K7.no (Mod.drew NoB w7)
  refine callK_ret c_l ?_
  rintro v w9 ⟨x6, rfl, ho6, -, -, hm9⟩
  refine ⟨x6, rfl, ?_, trivial⟩
  refine callK_ret c_one ?_
  rintro v w10 ⟨x7, rfl, ho7, -, -, hm10⟩
  refine ⟨x7, rfl, ?_, trivial⟩
  refine callK_ret c_one ?_
  rintro v w11 ⟨x8, rfl, ho8, -, -, hm11⟩
  refine ⟨x8, rfl, ?_, trivial⟩
  have o6 := (ho6.no hm10).no hm11; have o7 := ho7.no hm11
  refine callK_ret (c_rMulAdd o6.rd (own_lt o6) o7.rd (own_lt o7) ho8.rd (own_lt ho8)) ?_
  rintro v w12 ⟨x9, rfl, hx9, hf9, hr9, hc9, hm12⟩
  refine ⟨x9, rfl, ?_, trivial⟩
  have hc9 := hc9 ⟨lB_len _, oneB_len _, oneB_len _⟩
  have M12 := ((hm9.tr hm10).tr hm11).tr hm12
  have K12 := K7d.no M12
  have e32 : cutSl ⟨some ⟨f, 0, none⟩, 66, 66⟩ 1 0 ((32 : Int)).toNat 66 = ⟨some ⟨f, 0, none⟩, 32, 66⟩ := cutSl0 (s := ⟨some ⟨f, 0, none⟩, 66, 66⟩) (Nat.le_refl _) (by show 32 ≤ 66; omega)
  simp only [e32]
  refine sem_rows [⟨some ⟨f, 0, none⟩, 32, 66⟩, x9] (by rfl) rfl (by decide) (by decide) fun r e w13 hN13 hr hbr hor => ⟨r, rfl, ?_, trivial⟩
  have hrl : r.len = 2 := by rw [hr]
  have K13 := K12.no hN13.mod
  have hql : q.len = 14 := by have := hq.1; simp at this; omega
  have z13 := hN13.mod.size; have z12 := hm12.size; have z11 := K7.mod.size
  have z7 := M12.size
  refine sem_append u22 h261 h262 h263 rfl h264 K13.own hor.rd (fun v hv => by obtain ⟨z, _, rfl⟩ := List.mem_map.1 hv; rfl) (by omega) (by omega) fun all w14 ha14 hl14 hb14 hm14 => ⟨all, rfl, ?_⟩
  have hfr : Slc.blk ⟨some ⟨f, 0, none⟩, 32, 66⟩ = Slc.blk ⟨some ⟨f, 0, none⟩, 66, 66⟩ := by rw [Slc.blk_mk, Slc.blk_mk]
  have hx9l := rd_len8 hx9
  have hx9len : x9.len = 32 := by rw [← hx9l, mulT, if_pos ⟨lB_len _, oneB_len _, oneB_len _⟩]; simp
  have zd : w7.drew.heap.size = w7.heap.size := rfl
  have zm7 := M67.size
  have hrows : ∀ s ∈ ss ++ [⟨some ⟨f, 0, none⟩, 32, 66⟩, x9], (RB w13 s ∧ 32 ≤ s.cap ∧ s.len ≤ 64 ∧ FB W s) ∧ ∀ b, s.blk = some b → b < w13.heap.size ∧ q.blk ≠ some b := by
    intro s hs
    rcases List.mem_append.1 hs with h | h
    · exact ⟨K13.row s h, fun b hb => ⟨(K13.row s h).1.lt b hb, K13.ne s h b hb⟩⟩
    · simp only [List.mem_cons, List.not_mem_nil, or_false] at h
      rcases h with rfl | rfl
      · exact ⟨⟨K13.hfull.cut0 (by show 32 ≤ 66; omega), by show 32 ≤ 66; omega, by show 32 ≤ 64; omega, fun b hb => K13.ffull b (by rw [← hfr]; exact hb)⟩, fun b hb => ⟨K13.hfull.lt b (by rw [← hfr]; exact hb), K13.nef b (by rw [← hfr]; exact hb)⟩⟩
      · refine ⟨⟨hr9.no hN13.mod, by omega, by omega, hf9.le ?_⟩, fun b hb => ⟨by have := hr9.lt b hb; omega, fun e => ?_⟩⟩
        · have := ((hm9.tr hm10).tr hm11).size; omega
        · have h1 := hf9 b hb; have h2 := own_lt hq b e; have := ((hm9.tr hm10).tr hm11).size; omega
  have hK14 : Kept W w14 all ⟨some ⟨f, 0, none⟩, 66, 66⟩ (ss ++ [⟨some ⟨f, 0, none⟩, 32, 66⟩, x9]) := by
    have hnew : ∀ b, b < w13.heap.size → q.blk ≠ some b → all.blk ≠ some b := fun b hb hq e => by
      rcases hb14 with h | h
      · rw [h] at e; exact hq e
      · rw [h] at e; cases e; omega
    refine ⟨by rw [List.map_append]; exact ha14, fun s hs => ⟨(hrows s hs).1.1.mod hm14 fun b hb => ((hrows s hs).2 b hb).2, (hrows s hs).1.2⟩, K13.hall.step K13.mod.size hb14, K13.hfull.mod hm14 fun b hb => K13.nef b hb, rfl, K13.ffull, K13.hall.mod K13.mod hm14, fun s hs b hb => hnew b ((hrows s hs).2 b hb).1 ((hrows s hs).2 b hb).2, fun b hb => hnew b (K13.hfull.lt b hb) (K13.nef b hb)⟩
  clear hrows
  generalize hrs : ss ++ [⟨some ⟨f, 0, none⟩, 32, 66⟩, x9] = rs at hK14
  have hrsl : rs.length = 16 := by rw [← hrs]; simp; omega
  have hal : all.len = 16 := by omega
  clear hrs K13 K12 K7d K7 ha14 hm14 hb14
  -- any two
  refine ⟨fun l' w' => match l' with | [.i _ i] => ∃ k : Nat, i = k ∧ k ≤ 16 ∧ Kept W w' all ⟨some ⟨f, 0, none⟩, 66, 66⟩ rs | _ => False, fun l' _ => match l' with | [.i _ i] => (16 - i).toNat | _ => 0, ⟨0, rfl, by omega, hK14⟩, ?_⟩
  rintro i w15 ⟨i, rfl, hi, K15⟩
  obtain ⟨aa, eaa, -⟩ := K15.at (i := 0) (by omega)
  have hat : ∀ {w' : World} {j : Nat}, Kept W w' all ⟨some ⟨f, 0, none⟩, 66, 66⟩ rs → (hj : j < rs.length) → Rd w' (aa.add (j * 1)) [rs[j].val] := fun h hj => by
    obtain ⟨a, ea, hr⟩ := h.at hj
    rw [eaa] at ea; cases ea; exact hr
  have rowR : ∀ {w' : World} {j : Nat} (h : Kept W w' all ⟨some ⟨f, 0, none⟩, 66, 66⟩ rs) (hj : j < rs.length), RB w' rs[j] ∧ 32 ≤ rs[j].cap ∧ rs[j].len ≤ 64 ∧ FB W rs[j] := fun h hj => h.row _ (List.getElem_mem hj)
  refine condK_i (fun hlt => ?_) fun hge => ?_
  · have hi' : i < 16 := by rw [hal] at hlt; simp at hlt; omega
    refine ⟨fun l' w' => match l' with | [.i _ x] => ∃ k : Nat, x = k ∧ k ≤ 16 ∧ Kept W w' all ⟨some ⟨f, 0, none⟩, 66, 66⟩ rs | _ => False, fun l' _ => match l' with | [.i _ x] => (16 - x).toNat | _ => 0, ⟨0, rfl, by omega, K15⟩, ?_⟩
    rintro k w16 ⟨k, rfl, hk, K16⟩
    refine condK_i (fun hlt2 => ?_) fun hge2 => ?_
    · have hk' : k < 16 := by rw [hal] at hlt2; simp at hlt2; omega
      have e1 : Int.tmod (IntKind.i64.wrap ((i : Int) + (k : Int))) (all.len : Int) = (((i + k) % 16 : Nat) : Int) := by
        rw [wrap_i64 (by omega), hal]; rfl
      rw [e1]
      simp only [Int.toNat_natCast]
      have K16d := K16.no (Mod.drew NoB w16)
      refine ⟨fun w' => Kept W w' all ⟨some ⟨f, 0, none⟩, 66, 66⟩ rs, K16d, ⟨by omega, by omega⟩, onS eaa ⟨⟨by omega, by omega⟩, onS eaa ⟨by omega, ⟨by omega, by omega⟩, onS eaa ⟨rs[i]'(by omega), fun w' h => hat h (by omega : i < rs.length), rs[k]'(by omega), fun w' h => hat h (by omega : k < rs.length), rs[(i + k) % 16]'(by omega), fun w' h => hat h (by omega : (i + k) % 16 < rs.length), ?_, trivial⟩⟩⟩⟩
      have r1 := rowR K16d (by omega : i < rs.length); have r2 := rowR K16d (by omega : k < rs.length); have r3 := rowR K16d (by omega : (i + k) % 16 < rs.length)
      refine step_law4 r1.1.rd r1.1.lt r2.1.rd r2.1.lt r3.1.rd r3.1.lt fun w17 hm17 => ⟨K16d.no hm17, condK_i (fun e => by cases e) fun _ => ?_⟩
      have K17 := K16d.no hm17
      refine ⟨⟨by omega, by omega⟩, onS eaa ⟨⟨by omega, by omega⟩, onS eaa ⟨rs[i]'(by omega), fun w' h => hat h (by omega : i < rs.length), rs[k]'(by omega), fun w' h => hat h (by omega : k < rs.length), ?_, trivial⟩⟩⟩
      refine sem_lit0 u26 h51 fun e0 w18 hN18 => ⟨⟨_, _, _⟩, rfl, K17.no hN18.mod, ?_, trivial⟩
      have K18 := K17.no hN18.mod
      obtain ⟨li, hli⟩ := (rowR K18 (by omega : i < rs.length)).1.rd
      obtain ⟨lk, hlk⟩ := (rowR K18 (by omega : k < rs.length)).1.rd
      have li64 := (rowR K18 (by omega : i < rs.length)).2.2.1
      have lk64 := (rowR K18 (by omega : k < rs.length)).2.2.1
      refine sem_append u26 h51 h52 h53 rfl h54 (s := ⟨some ⟨e0, 0, none⟩, 0, 0⟩) (own_zero _ _ _) hli (bys_one _) (by simp only []; omega) (by simp only []; omega) fun x19 w19 ho19 hl19 hb19 hm19 => ⟨x19, rfl, ?_⟩
      have hm19' : Mod NoB w18 w19 := hm19.mono fun x _ hx => by simp at hx
      have K19 := K18.no hm19'
      have hx19 : ∀ b, x19.blk = some b → w18.heap.size ≤ b := fun b hb => by
        rcases hb19 with h | h
        · rw [h] at hb; simp at hb
        · rw [h] at hb; cases hb; exact Nat.le_refl _
      have hl19' : x19.len ≤ 64 := by simp only [] at hl19; omega
      refine ⟨K19, ?_, trivial⟩
      refine sem_append u26 h51 h52 h53 rfl h54 ho19 (hlk.no hm19') (bys_one _) (by omega) (by omega) fun x20 w20 ho20 hl20 hb20 hm20 => ⟨x20, rfl, ?_⟩
      have m1820 : Mod NoB w18 w20 := hm19'.fresh hm20 hx19
      have K20 := K18.no m1820
      refine ⟨K20, ?_, trivial⟩
      rw [List.nil_append, ← bys_app] at ho20
      refine step_law3 ⟨_, ho20.rd⟩ (own_lt ho20) fun w21 hm21 => ⟨K20.no hm21, condK_i (fun e => by cases e) fun _ => ⟨⟨k + 1, wrap_nat (by omega), by omega, K20.no hm21⟩, ?_⟩⟩
      rw [wrap_nat (by omega)]; (try simp only []); omega
    · have K16d := K16.no (Mod.drew NoB w16)
      simp only [Int.toNat_natCast]
      refine ⟨fun w' => Kept W w' all ⟨some ⟨f, 0, none⟩, 66, 66⟩ rs, K16d, ⟨by omega, by omega⟩, onS eaa ⟨rs[i]'(by omega), fun w' h => hat h (by omega : i < rs.length), ?_, trivial⟩⟩
      have r1 := rowR K16d (by omega : i < rs.length)
      refine step_law3 r1.1.rd r1.1.lt fun w22 hm22 => ⟨K16d.no hm22, condK_i (fun e => by cases e) fun _ => ?_⟩
      have K22 := K16d.no hm22
      have r2 := rowR K22 (by omega : i < rs.length)
      have hrd : ∀ w', Kept W w' all ⟨some ⟨f, 0, none⟩, 66, 66⟩ rs → Rd w' (aa.add (i * 1)) [rs[i].val] := fun w' h => hat h (by omega : i < rs.length)
      have e31 : cutSl rs[i] 1 0 ((31 : Int)).toNat rs[i].cap = ⟨rs[i].a, 31, rs[i].cap⟩ := cutSl0 r2.1.1 (by show 31 ≤ _; omega)
      refine ⟨⟨by omega, by omega⟩, onS eaa ⟨⟨by omega, by omega⟩, onS eaa ⟨⟨by omega, by omega⟩, onS eaa ⟨_, hrd, _, hrd, ⟨by omega, by show (31 : Int) ≤ (rs[i].cap : Int); omega⟩, _, hrd, ?_, trivial⟩⟩⟩⟩
      rw [e31]
      have r31 : RB w22 ⟨rs[i].a, 31, rs[i].cap⟩ := r2.1.cut0 (by omega)
      refine step_law4 r2.1.rd r2.1.lt r31.rd r31.lt r2.1.rd r2.1.lt fun w23 hm23 => ⟨K22.no hm23, condK_i (fun e => by cases e) fun _ => ?_⟩
      have K23 := K22.no hm23
      refine ⟨⟨by omega, by omega⟩, onS eaa ⟨⟨by omega, by omega⟩, onS eaa ⟨⟨by omega, by omega⟩, onS eaa ⟨_, hrd, _, hrd, _, hrd, ?_, trivial⟩⟩⟩⟩
      refine sem_bytes [0] (by rfl) rfl (by decide) (by decide) fun x31 e31' w24 hN24 hx31 hb31 ho31 => ⟨x31, rfl, K23.no hN24.mod, ?_, trivial⟩
      have K24 := K23.no hN24.mod
      have r4 := rowR K24 (by omega : i < rs.length)
      have hx31l : x31.len = 1 := by rw [hx31]
      refine sem_append_rb r4.1 ho31.rd (by omega) (by omega) fun x32 w25 l25 hx25 hl25 hkeep hm25 => ⟨x32, rfl, ?_⟩
      have K25 : Kept W w25 all ⟨some ⟨f, 0, none⟩, 66, 66⟩ rs := by
        refine ⟨K24.own.mod hm25 fun b hb e => K24.ne _ (List.getElem_mem (by omega : i < rs.length)) b e hb, fun s hs => ⟨hkeep s (K24.row s hs).1, (K24.row s hs).2⟩, K24.hall, hkeep _ K24.hfull, rfl, K24.ffull, K24.mod.fresh hm25 fun b hb => r4.2.2.2 b hb, K24.ne, K24.nef⟩
      refine ⟨K25, ?_, trivial⟩
      have r5 := rowR K25 (by omega : i < rs.length)
      refine step_law4 r5.1.rd r5.1.lt r5.1.rd r5.1.lt ⟨_, hx25⟩ hl25 fun w26 hm26 => ⟨K25.no hm26, condK_i (fun e => by cases e) fun _ => ⟨⟨i + 1, wrap_nat (by omega), by omega, K25.no hm26⟩, ?_⟩⟩
      rw [wrap_nat (by omega)]; (try simp only []); omega
  -- each length
  refine ⟨fun l' w' => match l' with | [.i _ n] => ∃ k : Nat, n = k ∧ k ≤ 67 ∧ Kept W w' all ⟨some ⟨f, 0, none⟩, 66, 66⟩ rs | _ => False, fun l' _ => match l' with | [.i _ n] => (67 - n).toNat | _ => 0, ⟨0, rfl, by omega, K15⟩, ?_⟩
  rintro n1 w27 ⟨n, rfl, hn, K27⟩
  refine condK_i (fun hle => ?_) fun hgt => ?_
  · have hn' : n ≤ 66 := by simp at hle; omega
    simp only [Int.toNat_natCast]
    have ecut : cutSl ⟨some ⟨f, 0, none⟩, 66, 66⟩ 1 0 n 66 = ⟨some ⟨f, 0, none⟩, n, 66⟩ := cutSl0 (s := ⟨some ⟨f, 0, none⟩, 66, 66⟩) (by simp) (by simpa using hn')
    simp only [ecut]
    have rn : RB w27 ⟨some ⟨f, 0, none⟩, n, 66⟩ := K27.hfull.cut0 hn'
    refine ⟨⟨by omega, by show (n : Int) ≤ ((66 : Nat) : Int); omega⟩, ?_⟩
    refine step_law3 (s := ⟨some ⟨f, 0, none⟩, n, 66⟩) rn.rd rn.lt fun w28 hm28 => condK_i (fun e => by cases e) fun _ => ?_
    refine sem_makeSlice (l := n) (c := n) u26 h51 h52 h53 rfl h54 rfl rfl (by omega) (by omega) (by omega) fun e29 w29 hN29 hb29 ho29 => ⟨⟨_, _, _⟩, rfl, ?_⟩
    rw [bys_rep] at ho29
    refine step_law3 (s := ⟨some ⟨e29, 0, none⟩, n, n⟩) ⟨_, ho29.rd⟩ (own_lt ho29) fun w30 hm30 => condK_i (fun e => by cases e) fun _ => ⟨⟨n + 1, wrap_nat (by omega), by omega, ((K27.no hm28).no hN29.mod).no hm30⟩, ?_⟩
    rw [wrap_nat (by omega)]; (try simp only []); omega
  -- one bit
  refine ⟨fun l' w' => match l' with | [.i _ n] => ∃ k : Nat, n = k ∧ k ≤ 256 ∧ Kept W w' all ⟨some ⟨f, 0, none⟩, 66, 66⟩ rs | _ => False, fun l' _ => match l' with | [.i _ n] => (256 - n).toNat | _ => 0, ⟨0, rfl, by omega, K27⟩, ?_⟩
  rintro by0 w31 ⟨m, rfl, hm, K31⟩
  refine condK_i (fun hlt => ?_) fun hge => ?_
  · have hm' : m < 256 := by simp at hlt; omega
    have e1 : IntKind.i64.wrap (Int.tdiv (m : Int) 8) = ((m / 8 : Nat) : Int) := by
      rw [show Int.tdiv (m : Int) 8 = ((m / 8 : Nat) : Int) from rfl, wrap_i64 (by omega)]
    have e2 : IntKind.i64.wrap ((32 : Int) + ((m / 8 : Nat) : Int)) = ((32 + m / 8 : Nat) : Int) := by rw [wrap_i64 (by omega)]; omega
    rw [e1, e2]
    simp only [Int.toNat_natCast]
    refine sem_makeSlice (l := 64) (c := 64) u26 h51 h52 h53 rfl h54 rfl rfl (by omega) (by omega) (by omega) fun p w32 hN32 hb32 ho32 => ⟨⟨_, _, _⟩, rfl, by omega, by omega, by omega, ⟨by omega, by show ((m / 8 : Nat) : Int) < ((64 : Nat) : Int); omega⟩, ?_⟩
    rw [bys_rep] at hb32
    refine semU_at (b := p) (n := m / 8) (by kernel_rfl) (by kernel_rfl) rfl hb32 (by simp; omega) fun w33 ht33 hb33 => ?_
    rw [bys_set] at hb33
    have hatp := hN32.at_
    have K33 : Kept W w33 all ⟨some ⟨f, 0, none⟩, 66, 66⟩ rs := K31.no (hN32.mod.fresh ht33.mod fun y e => by omega)
    refine sem_makeSlice (l := 64) (c := 64) u26 h51 h52 h53 rfl h54 rfl rfl (by omega) (by omega) (by omega) fun r w34 hN34 hb34 ho34 => ⟨⟨_, _, _⟩, rfl, by omega, by omega, by omega, ⟨by omega, by show ((32 + m / 8 : Nat) : Int) < ((64 : Nat) : Int); omega⟩, ?_⟩
    rw [bys_rep] at hb34
    refine semU_at (b := r) (n := 32 + m / 8) (by kernel_rfl) (by kernel_rfl) rfl hb34 (by simp; omega) fun w35 ht35 hb35 => ?_
    rw [bys_set] at hb35
    have hatr := hN34.at_
    have M35 : Mod NoB w33 w35 := hN34.mod.fresh ht35.mod fun y e => by omega
    have K35 := (K33.no M35).no (Mod.drew NoB w35)
    have rp : RB w35.drew ⟨some ⟨p, 0, none⟩, 64, 64⟩ := by
      have := RB.blk0 (n := 64) ((hb33.no M35).drew) (by simp)
      simpa using this
    have rr : RB w35.drew ⟨some ⟨r, 0, none⟩, 64, 64⟩ := by
      have := RB.blk0 (n := 64) (hb35.drew) (by simp)
      simpa using this
    have ecut : cutSl ⟨some ⟨p, 0, none⟩, 64, 64⟩ 1 0 ((32 : Int)).toNat 64 = ⟨some ⟨p, 0, none⟩, 32, 64⟩ := cutSl0 (s := ⟨some ⟨p, 0, none⟩, 64, 64⟩) (by simp) (by simp)
    simp only [ecut]
    refine ⟨?_, trivial⟩
    refine step_law3 (s := ⟨some ⟨p, 0, none⟩, 64, 64⟩) rp.rd rp.lt fun w36 hm36 => condK_i (fun e => by cases e) fun _ => ⟨?_, trivial⟩
    refine step_law3 (s := ⟨some ⟨r, 0, none⟩, 64, 64⟩) (rr.no hm36).rd (rr.no hm36).lt fun w37 hm37 => condK_i (fun e => by cases e) fun _ => ?_
    refine ⟨⟨by omega, by show (32 : Int) ≤ ((64 : Nat) : Int); omega⟩, ⟨by omega, by show (32 : Int) ≤ ((64 : Nat) : Int); omega⟩, ?_, trivial⟩
    refine callK_ret c_l ?_
    rintro v w38 ⟨x41, rfl, ho41, -, -, hm38⟩
    refine ⟨x41, rfl, ?_, trivial⟩
    have M38 := (hm36.tr hm37).tr hm38
    have r32 : RB w38 ⟨some ⟨p, 0, none⟩, 32, 64⟩ := (rp.no M38).cut0 (by show 32 ≤ 64; omega)
    refine step_law4 (a := ⟨some ⟨p, 0, none⟩, 32, 64⟩) (c := ⟨some ⟨p, 0, none⟩, 32, 64⟩) r32.rd r32.lt ⟨_, ho41.rd⟩ (own_lt ho41) r32.rd r32.lt fun w39 hm39 => condK_i (fun e => by cases e) fun _ => ⟨⟨m + 1, wrap_nat (by omega), by omega, (K35.no M38).no hm39⟩, ?_⟩
    rw [wrap_nat (by omega)]; (try simp only []); omega
  · refine callK_ret c_awake03 ?_
    rintro v w40 ⟨rfl, hm40⟩
    exact ⟨_, rfl, rfl, K31.mod.tr hm40⟩
end Go.Proofs.YtknbihogadcnpaaGreat
