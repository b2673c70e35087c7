/- SHA: the parts of a row, one after another; the hash that nobody made. -/
import Derived.Test.YtbbfcamopdckmaaDoorS10
import Derived.Test.YtbbfcamopdckmaaDoorS11
set_option linter.unusedSimpArgs false
set_option linter.unusedVariables false
set_option maxRecDepth 100000
namespace Go.Proofs.YtbbfcamopdckmaaDoor
open Go Go.Sh

/-- whole numbers as cells -/
def ints (l : List Int) : List Value := l.map (Value.int .i64)
@[simp] theorem ints_len (l : List Int) : (ints l).length = l.length := by simp [ints]
theorem rd_int {w : World} {s : Slc} {l : List Int} (h : SlRd w s 1 (ints l)) {i : Nat} (hi : i < l.length) : ∃ a, s.a = some a ∧ Rd w (a.add (i * 1)) [.int .i64 l[i]] :=
  h.at (by have := h.1; simp at this; omega) (by omega) fun j u hu => by
    cases j with
    | zero => simp at hu; subst hu; simp [hi, ints]
    | succ j => simp at hu
theorem rd_lenI {w : World} {s : Slc} {l : List Int} (h : SlRd w s 1 (ints l)) : l.length = s.len := by have := h.1; simp at this; omega
section
variable {H : Type} {enc : TypeId × Value → H} {W : World} {spare : Nat → Bool} {held : Bool} {fuel : Nat}
theorem cellsI : Tryd.prog.cellsOf 3 = 1 := by kernel_rfl
theorem uInts : Tryd.prog.underlying 51 = some (.slice 3) := by kernel_rfl
/-- numbers that came in -/
theorem ints_of {a : Option Addr} {len cap : Nat} {x : DataW H × List MemPlace} (h : DataW.trod enc Tryd.prog W 0 (fun _ => true) held fuel 51 [.slice a len cap] = some x) :
    ∃ l, SlRd W ⟨a, len, cap⟩ 1 (ints l) ∧ (∀ y, Slc.blk ⟨a, len, cap⟩ = some y → y < W.heap.size) ∧ ((x.1 = .nil ∧ cap = 0) ∨ ∃ es ss, x.1 = .slice es ss ∧ es.length + ss.length = cap) := by
  obtain ⟨V, h1, h2, h3, h4⟩ := row_of uInts cellsI h
  obtain ⟨l, hl⟩ := map_get (Value.int .i64) 0 V len fun i hi => by
    obtain ⟨n, y, hy⟩ := h3 i hi
    obtain ⟨k, h1, h2, h3⟩ := DataW.trod_int Tryd.underlying3 hy
    simp at h1
    exact ⟨k, h1⟩
  rw [hl] at h1
  exact ⟨l, h1, h2, h4⟩
end

/-- a number taken into 0 .. n-1 -/
theorem c_pick {w : World} {x : Int} {n : Nat} (h1 : 1 ≤ n) (h2 : n ≤ 1000000000000) : Calls Tryd.prog 31 #[.int .i64 x, .int .i64 n] w (Ret fun v w' => ∃ r : Nat, v = .int .i64 r ∧ r < n ∧ w' = w) := by
  refine call31 _ _ ?_
  unfold sh31
  refine condK_i (fun h => by simp at h; omega) fun _ => ⟨by omega, ?_⟩
  have a1 := Int.tmod_lt_of_pos x (show (0 : Int) < n by omega)
  have a2 := Int.lt_tmod_of_pos x (show (0 : Int) < n by omega)
  refine condK_i (fun h => ?_) fun h => ?_
  · have h' : Int.tmod x n < 0 := by simpa using h
    refine ⟨(Int.tmod x n + n).toNat, ?_, by omega, rfl⟩
    rw [wrap_i64 (by omega)]
    congr 1; omega
  · have h' : ¬ Int.tmod x n < 0 := by simpa using h
    exact ⟨(Int.tmod x n).toNat, by congr 1; omega, by omega, rfl⟩

theorem cut_row {W : World} {b : Slc} {l : List UInt8} (hb : SlRd W b 1 (bys l)) (hbl : ∀ x, b.blk = some x → x < W.heap.size) {i j : Nat} (h1 : i ≤ j) (h2 : j ≤ b.len) :
    SlRd W (cutSl b 1 i j b.cap) 1 (bys ((l.drop i).take (j - i))) ∧ ∀ x, (cutSl b 1 i j b.cap).blk = some x → x < W.heap.size := by
  have hc := hb.cut h1 h2 (Nat.le_trans h2 hb.2.1) (Nat.le_refl _)
  rw [bys_cut] at hc
  exact ⟨hc, fun x hx => hbl x (blk_cut hx (Nat.le_refl _))⟩

theorem law_parts {W : World} {b cuts : Slc} {l : List UInt8} {cl : List Int} (hg : Glob W) (hb : SlRd W b 1 (bys l)) (hbl : ∀ x, b.blk = some x → x < W.heap.size) (hc : SlRd W cuts 1 (ints cl)) :
    Calls Tryd.prog 8 #[.slice b.a b.len b.cap, .slice cuts.a cuts.len cuts.cap] W (Ret fun v w' => v = .bool true ∧ Mod NoB W w') := by
  refine call8 _ _ ?_
  unfold sh8
  have hn := rd_len8 hb; have hcn := rd_lenI hc
  have hcap := hb.2.1
  refine callK_ret (c_awake hg) ?_
  rintro v w1 ⟨rfl, hm1⟩
  refine ⟨true, rfl, ?_⟩
  show condK false _ _
  refine condK_i (fun e => by cases e) fun _ => ?_
  refine ⟨fun l' w' => (l' = [.b true] ∨ (l' = [.b false] ∧ b.len ≤ 3000 ∧ cuts.len ≤ 40)) ∧ w' = w1, condK_i (fun _ => ⟨.inl rfl, rfl⟩) fun h => ?_, ?_⟩
  · refine ⟨?_, rfl⟩
    rcases Nat.lt_or_ge 40 cuts.len with h' | h'
    · left; simp; omega
    · right; refine ⟨by simp; omega, by simp at h; omega, h'⟩
  rintro x1 w2 ⟨h, rfl⟩
  rcases h with h | ⟨h, hb3, hc4⟩
  · simp at h; subst h; exact condK_i (fun _ => ⟨rfl, hm1⟩) fun e => by cases e
  simp at h; subst h
  refine condK_i (fun e => by cases e) fun _ => ?_
  refine step_sum (W := W) (ss := [b]) (pl := [l]) (hg.no hm1) hm1 rfl rfl (by omega) (by omega) rfl (rows1 hb hbl) (by simp; omega) ?_
  intro x3 w4 ho4 hf4 hm4
  have hM4 := hm1.tr hm4
  have hM4' := hM4.size
  simp only [List.flatten_cons, List.flatten_nil, List.append_nil] at ho4
  have hrow : ∀ {i j : Nat}, i ≤ j → j ≤ b.len → SlRd w4 (cutSl b 1 i j b.cap) 1 (bys ((l.drop i).take (j - i))) ∧ ∀ x, (cutSl b 1 i j b.cap).blk = some x → x < w4.heap.size :=
    fun h1 h2 => ⟨(cut_row hb hbl h1 h2).1.no hM4, fun x hx => Nat.lt_of_lt_of_le ((cut_row hb hbl h1 h2).2 x hx) hM4'⟩
  refine callK_ret (c_newF (hg.no hM4) (Mod.refl NoB w4)) ?_
  rintro v w5 ⟨p, rfl, hp5, hpf, hm5⟩
  refine ⟨_, rfl, fun l' w' => match l' with | [.i _ n, .i _ k] => ∃ (n' k' : Nat) (s : Slc), n = n' ∧ k = k' ∧ k' ≤ cuts.len ∧ n' ≤ b.len ∧ HashAt w' p s (l.take n') ∧ Glob w' ∧ (∀ x, HSet p s x → w4.heap.size ≤ x) ∧ Mod NoB w4 w' | _ => False,
    fun l' _ => match l' with | [.i _ n, .i _ k] => (cuts.len - k).toNat | _ => 0, ⟨0, 0, _, rfl, rfl, by omega, by omega, hp5, hg.no (hM4.tr hm5), hpf, hm5⟩, ?_⟩
  rintro n k w6 ⟨n', k', s, rfl, rfl, hk, hn', hh6, hg6, hf6, hm6⟩
  refine condK_i (fun hlt => ?_) fun hge => ?_
  · have hk' : k' < cuts.len := by simp at hlt; omega
    obtain ⟨a, ea, hra⟩ := rd_int hc (i := k') (by omega)
    rw [ea]
    refine ⟨⟨by omega, by omega⟩, _, hra.mod (hM4.tr hm6) fun h => h, ?_⟩
    have e1 : IntKind.i64.wrap (IntKind.i64.wrap ((b.len : Int) - (n' : Int)) + 1) = ((b.len - n' + 1 : Nat) : Int) := by
      rw [show IntKind.i64.wrap ((b.len : Int) - (n' : Int)) = (b.len : Int) - n' from wrap_i64 (by omega), wrap_i64 (by omega)]; omega
    rw [e1]
    refine callK_ret (c_pick (by omega) (by omega)) ?_
    rintro v w7 ⟨r, rfl, hr, rfl⟩
    refine ⟨_, rfl, ?_⟩
    have e2 : IntKind.i64.wrap ((n' : Int) + (r : Int)) = ((n' + r : Nat) : Int) := by rw [wrap_i64 (by omega)]; omega
    rw [e2]
    refine ⟨⟨by omega, by omega, by omega⟩, ?_⟩
    simp only [Int.toNat_natCast]
    have hR := hrow (i := n') (j := n' + r) (by omega) (by omega)
    refine step_write (W := w4) (ss := [cutSl b 1 n' (n' + r) b.cap]) (pl := [(l.drop n').take (n' + r - n')]) hh6 hg6 hf6 hm6 rfl rfl (by omega) (by omega) rfl (rows1 hR.1 hR.2) (by simp; omega) ?_
    intro s' w8 hh8 hg8 hf8 _ _ hm8 _
    simp only [List.flatten_cons, List.flatten_nil, List.append_nil] at hh8
    rw [show n' + r - n' = r by omega, ← List.take_add] at hh8
    refine ⟨⟨n' + r, k' + 1, s', rfl, wrap_nat (by omega), by omega, by omega, hh8, hg8, hf8, hm8⟩, ?_⟩
    rw [wrap_nat (by omega)]; (try simp only []); omega
  · refine ⟨⟨by omega, by omega⟩, ?_⟩
    simp only [Int.toNat_natCast]
    have hR := hrow (i := n') (j := b.len) (by omega) (by omega)
    refine step_write (W := w4) (ss := [cutSl b 1 n' b.len b.cap]) (pl := [(l.drop n').take (b.len - n')]) hh6 hg6 hf6 hm6 rfl rfl (by omega) (by omega) rfl (rows1 hR.1 hR.2) (by simp; omega) ?_
    intro s' w8 hh8 hg8 hf8 _ _ hm8 _
    simp only [List.flatten_cons, List.flatten_nil, List.append_nil] at hh8
    rw [← List.take_add, show n' + (b.len - n') = l.length by omega, List.take_length] at hh8
    refine callK_ret (c_newF hg8 (Mod.refl NoB w8)) ?_
    rintro v w9 ⟨q, rfl, hq9, hqf, hm9⟩
    refine ⟨_, rfl, fun l' w' => match l' with | [.i _ k] => ∃ (k' : Nat) (t : Slc), k = k' ∧ k' ≤ b.len ∧ HashAt w' q t (l.take k') ∧ Glob w' ∧ (∀ x, HSet q t x → w8.heap.size ≤ x) ∧ Mod NoB w8 w' | _ => False,
      fun l' _ => match l' with | [.i _ k] => (b.len - k).toNat | _ => 0, ⟨0, _, rfl, by omega, hq9, hg8.no hm9, hqf, hm9⟩, ?_⟩
    rintro k w10 ⟨k2, t, rfl, hk2, hh10, hg10, hf10, hm10⟩
    have hrow8 : ∀ {i j : Nat}, i ≤ j → j ≤ b.len → SlRd w8 (cutSl b 1 i j b.cap) 1 (bys ((l.drop i).take (j - i))) ∧ ∀ x, (cutSl b 1 i j b.cap).blk = some x → x < w8.heap.size :=
      fun h1 h2 => ⟨(hrow h1 h2).1.no hm8, fun x hx => Nat.lt_of_lt_of_le ((hrow h1 h2).2 x hx) hm8.size⟩
    refine condK_i (fun hlt => ?_) fun hge => ?_
    · have hk' : k2 < b.len := by simp at hlt; omega
      rw [wrap_nat (by omega)]
      refine ⟨⟨by omega, by omega, by omega⟩, ?_⟩
      simp only [Int.toNat_natCast]
      have hR := hrow8 (i := k2) (j := k2 + 1) (by omega) (by omega)
      refine step_write (W := w8) (ss := [cutSl b 1 k2 (k2 + 1) b.cap]) (pl := [(l.drop k2).take (k2 + 1 - k2)]) hh10 hg10 hf10 hm10 rfl rfl (by omega) (by omega) rfl (rows1 hR.1 hR.2) (by simp; omega) ?_
      intro s'' w11 hh11 hg11 hf11 _ _ hm11 _
      simp only [List.flatten_cons, List.flatten_nil, List.append_nil] at hh11
      rw [show k2 + 1 - k2 = 1 by omega, ← List.take_add] at hh11
      refine ⟨⟨k2 + 1, s'', rfl, by omega, hh11, hg11, hf11, hm11⟩, ?_⟩
      (try simp only []); omega
    · have hk' : k2 = l.length := by simp at hge; omega
      subst hk'
      rw [List.take_length] at hh10
      have hx3 : b.len = b.len := rfl
      have ho10 := (ho4.no hm8).no hm10
      have hl3 : x3.len = 64 := by have := ho10.rd.1; rw [bys_len, sha_len] at this; omega
      refine condK_i (fun _ => ?_) fun e => by rw [hl3] at e; simp at e
      refine step_same (hh8.no hm10) hg10 ho10.rd (by omega) fun w12 hm12 => ?_
      rw [show decide (sha l = sha l) = true by simp]
      refine condK_i (fun _ => ?_) fun e => by cases e
      refine step_same (hh10.no hm12) (hg10.no hm12) (ho10.no hm12).rd (by omega) fun w13 hm13 => ?_
      rw [show decide (sha l = sha l) = true by simp]
      exact ⟨rfl, (((hM4.tr hm8).tr hm10).tr hm12).tr hm13⟩
end Go.Proofs.YtbbfcamopdckmaaDoor
