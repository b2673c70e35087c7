/- SHA: a hash that is written to, asked and copied amid. -/
import Derived.Test.YtbbfcamopdckmaaDoorS15
set_option linter.unusedSimpArgs false
set_option linter.unusedVariables false
set_option maxRecDepth 100000
namespace Go.Proofs.YtbbfcamopdckmaaDoor
open Go Go.Sh

def bls (l : List Bool) : List Value := l.map Value.bool
@[simp] theorem bls_len (l : List Bool) : (bls l).length = l.length := by simp [bls]
theorem rd_bl {w : World} {s : Slc} {l : List Bool} (h : SlRd w s 1 (bls l)) {i : Nat} (hi : i < l.length) : ∃ a, s.a = some a ∧ Rd w (a.add (i * 1)) [.bool l[i]] :=
  h.at (by have := h.1; simp at this; omega) (by omega) fun j u hu => by
    cases j with
    | zero => simp at hu; subst hu; simp [hi, bls]
    | succ j => simp at hu
section
variable {H : Type} {enc : TypeId × Value → H} {W : World} {held : Bool} {fuel : Nat}
theorem cellsB : Tryd.prog.cellsOf 4 = 1 := by kernel_rfl
theorem uBools : Tryd.prog.underlying 32 = some (.slice 4) := by kernel_rfl
/-- truths that came in -/
theorem bools_of {a : Option Addr} {len cap : Nat} {x : DataW H × List MemPlace} (h : DataW.trod enc Tryd.prog W 0 (fun _ => true) held fuel 32 [.slice a len cap] = some x) :
    ∃ l, SlRd W ⟨a, len, cap⟩ 1 (bls l) ∧ (∀ y, Slc.blk ⟨a, len, cap⟩ = some y → y < W.heap.size) := by
  obtain ⟨V, h1, h2, h3, h4⟩ := row_of uBools cellsB h
  obtain ⟨l, hl⟩ := map_get Value.bool false V len fun i hi => by
    obtain ⟨n, y, hy⟩ := h3 i hi
    obtain ⟨c, e, _⟩ := DataW.trod_bool Tryd.underlying4 hy
    simp at e
    exact ⟨c, e⟩
  rw [hl] at h1
  exact ⟨l, h1, h2⟩
end

/-- one row is laid into a slice, and written -/
theorem step_write1 {w : World} {p : Nat} {s r : Slc} {b l : List UInt8} {pan : List PanicEntry → World → Prop} {K : Int → World → Prop}
    (h : HashAt w p s b) (hg : Glob w) (hr : SlRd w r 1 (bys l)) (hd : ∀ x, r.blk = some x → ¬ HSet p s x ∧ x < w.heap.size) (hb : b.length + l.length ≤ 900000000)
    (hK : ∀ s' w', HashAt w' p s' (b ++ l) → Glob w' → (∀ x, HSet p s' x → HSet p s x ∨ w.heap.size ≤ x) → Mod (HSet p s) w w' → K 0 w') :
    semK Tryd.prog (Instr.buildSlice 22 1 #[(0, (.slice r.a r.len r.cap))]) w fun v w2 => ∃ x : Slc, v = (.slice x.a x.len x.cap) ∧ callK Tryd.prog 24 [.pointer (some ⟨p, 0, none⟩), (.slice x.a x.len x.cap)] w2 pan fun v w3 => ∃ r : Int, v = .int .i64 r ∧ K r w3 := by
  refine sem_rows [r] rfl rfl (by omega) (by omega) fun x e w1 hN hx hbz hox => ⟨x, rfl, ?_⟩
  have hat := hN.at_; have hsz := hN.size
  have hxe := blk_of_eq hx
  have hX : ∀ y, (y = e ∨ r.blk = some y) → ¬ HSet p s y := fun y hy hh => by
    rcases hy with hy | hy
    · have := h.low hh; omega
    · exact (hd y hy).1 hh
  refine callK_ret (c_write (h.no hN.mod) (hg.no hN.mod) (parts_of (ss := [r]) (pl := [l]) (X := fun y => y = e ∨ r.blk = some y) hox.rd (fun y hy => .inl (hxe y hy)) rfl fun i hi hi' => by
      have : i = 0 := by simp at hi; omega
      subst this
      exact ⟨hr.no hN.mod, fun y hy => .inr hy⟩)
    (fun hp => hX p hp (.inl rfl)) (fun y hy hh => hX y hh (.inr hy)) (fun y hy => hy.elim (fun e => by omega) fun e => by have := (hd y e).2; omega) (by simp; omega) (by simp)) ?_
  rintro v w2 ⟨rfl, s', hh, hb', hm2⟩
  have hm2' : Mod (HSet p s) w w2 := hN.mod.no hm2
  rw [List.flatten_cons, List.flatten_nil, List.append_nil] at hh
  refine ⟨0, rfl, hK s' w2 hh (hg.mod hm2' fun x hx hh => hh.elim (fun e => h.pg (by rw [← e]; exact hx)) fun e => h.sg x e hx) (fun y hy => ?_) hm2'⟩
  rcases hy with rfl | hy
  · exact .inl (.inl rfl)
  · rcases hb' with h1 | h1 | ⟨z, h1, hz⟩
    · exact .inl (.inr (by rw [← h1]; exact hy))
    · rw [h1] at hy; cases hy
    · rw [h1] at hy; cases hy; exact .inr (by omega)
theorem parts_take {w : World} {l : Slc} {pl : List (List UInt8)} {X : Nat → Prop} (h : PartsAt w l pl X) {n : Nat} (hn : n ≤ l.len) : PartsAt w ⟨l.a, n, l.cap⟩ (pl.take n) X := by
  have hL := row_blk h
  obtain ⟨ss, h1, h2, h3, h4⟩ := h
  have := h1.take hn
  rw [Nat.mul_one, ← List.map_take] at this
  refine ⟨ss.take n, this, fun y hy => h2 y (by rw [← hy]; exact blk_eq rfl rfl), by simp [h3], fun i hi hi' => ?_⟩
  rw [List.getElem_take, List.getElem_take]
  exact h4 i (by simp at hi; omega) (by simp at hi'; omega)

theorem law_writes {W : World} {l cs : Slc} {pl : List (List UInt8)} {cl : List Bool} (hg : Glob W) (hp : PartsAt W l pl (fun x => x < W.heap.size)) (hl : l.len ≤ 1000000000000000) (hc : SlRd W cs 1 (bls cl)) :
    Calls Tryd.prog 4 #[.slice l.a l.len l.cap, .slice cs.a cs.len cs.cap] W (Ret fun v w' => v = .bool true ∧ Mod NoB W w') := by
  refine call4 _ _ ?_
  unfold sh4
  refine callK_ret (c_awake hg) ?_
  rintro v w1 ⟨rfl, hm1⟩
  refine ⟨true, rfl, ?_⟩
  show condK false _ _
  refine condK_i (fun e => by cases e) fun _ => ?_
  have hp1 := hp.mod hm1 fun _ _ h => h
  refine callK_ret (c_smallL hp1 (by omega)) ?_
  rintro v w1 ⟨b, rfl, rfl, hb⟩
  refine ⟨b, rfl, condK_i (fun _ => ⟨rfl, hm1⟩) fun hbt => ?_⟩
  obtain ⟨h40, h3000⟩ := hb (by simpa using hbt)
  have hL := row_blk hp
  have hcl : cl.length = cs.len := by have := hc.1; simp at this; omega
  have hcap : l.len ≤ l.cap := by obtain ⟨_, h, _⟩ := hp; exact h.2.1
  refine callK_ret (c_newF (hg.no hm1) hm1) ?_
  rintro v w3 ⟨p0, rfl, hh3, hf3, hm3⟩
  have hM3 := hm1.tr hm3
  refine ⟨_, rfl, fun l' w' => match l' with | [.p h, .i _ i] => ∃ (k p : Nat) (s : Slc), h = some ⟨p, 0, none⟩ ∧ i = k ∧ k ≤ pl.length ∧ HashAt w' p s (pl.take k).flatten ∧ Glob w' ∧ (∀ x, HSet p s x → W.heap.size ≤ x) ∧ Mod NoB W w' | _ => False,
    fun l' _ => match l' with | [.p h, .i _ i] => (l.len - i).toNat | _ => 0, ⟨0, p0, _, rfl, rfl, by omega, hh3, hg.no hM3, fun x hx => Nat.le_trans hm1.size (hf3 x hx), hM3⟩, ?_⟩
  rintro h i w4 ⟨k, p, s, rfl, rfl, hk, hh4, hg4, hf4, hM4⟩
  have hfl := flat_le pl k
  refine condK_i (fun hlt => ?_) fun hge => ?_
  · have hk' : k < pl.length := by simp at hlt; omega
    have hone := one_le hk'
    have hfl1 := flat_le pl (k + 1)
    rw [take_flat hk', List.length_append] at hfl1
    refine ⟨fun l' w' => match l' with | [.p h1] => ∃ (p1 : Nat) (s1 : Slc), h1 = some ⟨p1, 0, none⟩ ∧ HashAt w' p1 s1 (pl.take k).flatten ∧ Glob w' ∧ (∀ x, HSet p1 s1 x → W.heap.size ≤ x) ∧ Mod NoB W w' | _ => False, ?_, ?_⟩
    · refine ⟨fun l' w' => (∃ b : Bool, l' = [.b b]) ∧ w' = w4, condK_i (fun hlt => ?_) fun hge => ⟨⟨_, rfl⟩, rfl⟩, ?_⟩
      · have hkc : k < cl.length := by simp at hlt; omega
        obtain ⟨ca, ec, hr⟩ := rd_bl hc hkc
        exact ⟨⟨by omega, by omega⟩, onSome_of ec ⟨cl[k], hr.mod hM4 fun h => h, ⟨_, rfl⟩, rfl⟩⟩
      rintro x4 w5 ⟨⟨b, he⟩, rfl⟩
      refine condK_i (fun _ => ?_) fun _ => ⟨p, s, rfl, hh4, hg4, hf4, hM4⟩
      refine callK_ret (c_copy hh4 hg4 (by omega)) ?_
      rintro v w6 ⟨q, t, rfl, hh6, hq6, ht6, hm6⟩
      have hqF : ∀ x, HSet q t x → w5.heap.size ≤ x := fun x hx => hx.elim (fun e => by omega) fun e => FB.of ht6 x e
      refine ⟨_, rfl, sem_bytes [109, 111, 114, 101] rfl rfl (by omega) (by omega) fun y m w7 hN7 hy hb7 ho7 => ⟨y, rfl, ?_⟩⟩
      subst hy
      have hat7 := hN7.at_
      refine sem_convLit u26 (by kernel_rfl) hb7 fun w8 hb8 ht8 => ⟨⟨_, _, _⟩, rfl, ?_⟩
      have hm67 : Mod NoB w6 w8 := hN7.mod.fresh ht8.mod fun x e => by omega
      have hm58 := hm6.tr hm67
      have hM8 := hM4.tr hm58
      have hs56 := hm6.size
      refine step_write1 (r := ⟨some ⟨m, 0, none⟩, 4, 4⟩) (l := [109, 111, 114, 101]) (hh4.no hm58) (hg4.no hm58) (own_whole hb8 rfl).rd (fun x hx => ?_) (by show (pl.take k).flatten.length + 4 ≤ 900000000; omega) fun s' w9 hh9 hg9 hs9 hm9 => ?_
      · have hxm := blk_of_eq rfl x hx
        have := hb8.lt
        exact ⟨fun hh => by have := hh4.low hh; omega, by omega⟩
      · exact ⟨q, t, rfl, (hh6.no hm67).keep hm9 fun x hx hx' => by have := hqF x hx; have := hh4.low hx'; omega, hg9, fun x hx => by have := hqF x hx; have := hM4.size; omega, hM8.fresh hm9 fun x hx => hf4 x hx⟩
    · rintro h1 w11 ⟨p1, s1, rfl, hh11, hg11, hf11, hM11⟩
      obtain ⟨ss, q1, q2, q3, q4⟩ := hp
      obtain ⟨la, el, hr⟩ := rd_slc q1 (i := k) (by omega)
      have hrow := (q4 k (by omega) hk').1
      refine ⟨⟨by omega, by omega⟩, onSome_of el ⟨ss[k], hr.mod hM11 fun h => h, callK_ret (c_lentBytes (hrow.no hM11) (by omega)) ?_⟩⟩
      rintro v w12 ⟨x, rfl, hx, hxf, hm12⟩
      have hM12 := hM11.tr hm12
      have hW11 := hM11.size
      have hxH : ∀ y, x.blk = some y → ¬ HSet p1 s1 y := fun y hy hh => by have := hh11.low hh; have := hxf y hy; omega
      refine ⟨x, rfl, fun l' w' => l' = [.b false] ∧ ∃ s2, HashAt w' p1 s2 ((pl.take k).flatten ++ pl[k]) ∧ Glob w' ∧ (∀ y, HSet p1 s2 y → W.heap.size ≤ y) ∧ Mod NoB W w' ∧ LentB w' x pl[k] ∧ (∀ y, x.blk = some y → ¬ HSet p1 s2 y), ?_, ?_⟩
      · refine step_write1 (hh11.no hm12) (hg11.no hm12) hx.rd (fun y hy => ⟨hxH y hy, hx.lt hy⟩) (by omega) fun s2 w14 hh14 hg14 hs14 hm14 => ?_
        have hM14 := hM12.fresh hm14 fun y hy => hf11 y hy
        have hx14 := hx.mod hm14 hxH
        refine condK_i (fun e => by simp at e) fun _ => ⟨⟨by omega, by omega⟩, onSome_of el ⟨ss[k], hr.mod hM14 fun h => h, callK_ret (c_keptBytes hx14 (hrow.no hM14) (by omega)) ?_⟩⟩
        rintro v w15 ⟨rfl, hm15⟩
        exact ⟨_, rfl, rfl, s2, hh14.no hm15, hg14.no hm15, fun y hy => (hs14 y hy).elim (hf11 y) fun e => by have := hm12.size; omega, hM14.tr hm15, hx14.no hm15, fun y hy hh => (hs14 y hh).elim (hxH y hy) fun e => by have := hx.lt hy; omega⟩
      · rintro x16 w16 ⟨he, s2, hh16, hg16, hf16, hM16, hx16, hxH16⟩
        simp at he; subst he
        refine condK_i (fun e => by cases e) fun _ => ?_
        refine callK_ret (c_overBytes hx16 (by omega)) ?_
        rintro v w17 ⟨rfl, hm17⟩
        have hh17 := hh16.keep hm17 fun y hy hy' => hxH16 y hy' hy
        have hM17 := hM16.fresh hm17 fun y hy => by have := hxf y hy; omega
        have hg17 := hg.no hM17
        have D : Mod NoB w17 w17.drew := Mod.drew _ _
        rw [wrap_nat (by omega)]
        refine ⟨rfl, ⟨by omega, by omega⟩, ?_, trivial⟩
        refine callK_ret (c_sumH (hh17.no D) (hg17.no D) (by rw [List.length_append]; omega)) ?_
        rintro v w18 ⟨y, rfl, hy, hyf, hm18⟩
        have hM18 := (hM17.tr D).tr hm18
        refine ⟨y, rfl, ?_, trivial⟩
        rw [show (((k + 1 : Nat) : Int)).toNat = k + 1 from rfl, cutSl0 hcap (by omega)]
        have hpt := parts_take (PartsAt.mod (S := NoB) ⟨ss, q1, q2, q3, q4⟩ hM18 fun _ _ h => h) (n := k + 1) (by omega)
        have hfk : (pl.take (k + 1)).flatten = (pl.take k).flatten ++ pl[k] := take_flat hk'
        refine callK_ret (c_together (parts := ⟨l.a, k + 1, l.cap⟩) hpt (by rw [hfk, List.length_append]; omega) (by simp only []; omega) fun z hz => Nat.lt_of_lt_of_le hz hM18.size) ?_
        rintro v w19 ⟨z, rfl, hz, hzf, hm19⟩
        refine ⟨z, rfl, ?_, trivial⟩
        rw [hfk] at hz
        refine callK_ret (c_ref hz.rd (by rw [List.length_append]; omega)) ?_
        rintro v w20 ⟨u, rfl, hu, huf, hm20⟩
        refine ⟨u, rfl, ?_, trivial⟩
        refine callK_ret (c_same ((hy.no hm19).no hm20).rd hu.rd (by rw [sha_len]; omega)) ?_
        rintro v w21 ⟨rfl, hm21⟩
        have h1721 := (((D.tr hm18).tr hm19).tr hm20).tr hm21
        refine ⟨_, rfl, condK_i (fun e => by simp at e) fun _ => ⟨⟨k + 1, p1, s2, rfl, rfl, by omega, ?_, hg17.no h1721, hf16, hM17.tr h1721⟩, by (try simp only []); omega⟩⟩
        rw [hfk]
        exact hh17.no h1721
  · have hk' : k = pl.length := by simp at hge; omega
    subst hk'
    rw [List.take_length] at hh4
    refine callK_ret (c_sumH hh4 hg4 (by omega)) ?_
    rintro v w5 ⟨y, rfl, hy, hyf, hm5⟩
    have hM5 := hM4.tr hm5
    refine ⟨y, rfl, callK_ret (c_together (hp.mod hM5 fun _ _ h => h) (by omega) (by omega) fun z hz => Nat.lt_of_lt_of_le hz hM5.size) ?_⟩
    rintro v w6 ⟨z, rfl, hz, hzf, hm6⟩
    refine ⟨z, rfl, callK_ret (c_ref hz.rd (by omega)) ?_⟩
    rintro v w7 ⟨u, rfl, hu, huf, hm7⟩
    refine ⟨u, rfl, callK_ret (c_same ((hy.no hm6).no hm7).rd hu.rd (by rw [sha_len]; omega)) ?_⟩
    rintro v w8 ⟨rfl, hm8⟩
    exact ⟨_, rfl, by simp, ((hM5.tr hm6).tr hm7).tr hm8⟩
end Go.Proofs.YtbbfcamopdckmaaDoor
