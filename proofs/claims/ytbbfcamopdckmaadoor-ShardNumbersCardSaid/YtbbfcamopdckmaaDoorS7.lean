/- SHA: the digest told. -/
import Derived.Test.YtbbfcamopdckmaaDoorS6
set_option linter.unusedSimpArgs false
set_option linter.unusedVariables false
namespace Go.Proofs.YtbbfcamopdckmaaDoor
open Go Go.Sh

/-- a slice that lies in a new block, or writes nowhere -/
def FB (w0 : World) (s : Slc) : Prop := ∀ x, s.blk = some x → w0.heap.size ≤ x
theorem FB.nil (w0 : World) : FB w0 ⟨none, 0, 0⟩ := fun x h => by simp at h
theorem FB.new {w0 : World} {b n c : Nat} (h : w0.heap.size ≤ b) : FB w0 ⟨some ⟨b, 0, none⟩, n, c⟩ := fun x hx => by
  rw [Slc.blk_mk] at hx; split at hx <;> simp_all
theorem FB.step {w0 w : World} {s s' : Slc} (h : FB w0 s) (hsz : w0.heap.size ≤ w.heap.size) (h' : s'.blk = s.blk ∨ s'.blk = some w.heap.size) : FB w0 s' := fun x hx => by
  rcases h' with h' | h'
  · exact h x (by rw [← h']; exact hx)
  · rw [h'] at hx; cases hx; exact hsz
theorem FB.mod {w0 w w' : World} {s : Slc} (h : FB w0 s) (hm : Mod NoB w0 w) (hm' : Mod (fun x => s.blk = some x) w w') : Mod NoB w0 w' := hm.fresh hm' fun x e => h x e
theorem FB.of {w0 : World} {s : Slc} (h : s.blk = none ∨ ∃ x, s.blk = some x ∧ w0.heap.size ≤ x) : FB w0 s := fun x hx => by
  rcases h with h | ⟨y, h, hy⟩
  · rw [h] at hx; cases hx
  · rw [h] at hx; cases hx; exact hy
theorem FB.le {w0 w1 : World} {s : Slc} (h : FB w1 s) (hsz : w0.heap.size ≤ w1.heap.size) : FB w0 s := fun x hx => Nat.le_trans hsz (h x hx)

section
variable {K : Slc → World → Prop} {w : World}
/-- append(s, c): one byte -/
theorem sem_byte {w0 : World} {s : Slc} {l : List UInt8} {c : UInt8} (hs : Sh.Own w s 1 (bys l)) (hf : FB w0 s) (hm : Mod NoB w0 w) (hn : l.length ≤ 2000000000)
    (hK : ∀ (s' : Slc) w', Sh.Own w' s' 1 (bys (l ++ [c])) → FB w0 s' → Mod NoB w0 w' → s'.len = s.len + 1 → K s' w') :
    semK Tryd.prog (Instr.buildSlice 26 1 #[(0, (.int .u8 c.toNat))]) w fun v w2 => ∃ x1 : Slc, v = (.slice x1.a x1.len x1.cap) ∧ semK Tryd.prog (Builtin.append_ #[26, 26] 26 #[(.slice s.a s.len s.cap), (.slice x1.a x1.len x1.cap)]) w2 fun v1 w3 => ∃ x2 : Slc, v1 = (.slice x2.a x2.len x2.cap) ∧ K x2 w3 := by
  obtain ⟨i5', h51, h52, h53, h54⟩ := i5
  have hl := rd_len8 hs.rd
  refine sem_lit (l := [.int .u8 c.toNat]) [.int .u8 c.toNat] u26 h51 h52 h53 (by decide) rfl (by decide) (by decide) rfl (by simp [Value.cells]) rfl fun b w1 hN hb => ⟨⟨_, _, _⟩, rfl, ?_⟩
  have hm1 := hm.tr hN.mod
  refine sem_append u26 h51 h52 h53 rfl h54 (hs.no hN.mod) (own_whole (n := 1) (k := 1) hb rfl).rd (bys_one [c]) (by simp only []; omega) (by simp only []; omega) fun s' w2 ho hlen hblk hm2 => ⟨s', rfl, hK s' w2 ?_ (hf.step hm1.size hblk) (hf.mod hm1 hm2) hlen⟩
  rw [bys_app]; exact ho
end
theorem be8_at (x : UInt64) : ∀ k, k < 8 → (be8 x)[k]? = some (shrU64 x (56 - 8 * k)).toUInt8
  | 0, _ => rfl | 1, _ => rfl | 2, _ => rfl | 3, _ => rfl | 4, _ => rfl | 5, _ => rfl | 6, _ => rfl | 7, _ => rfl
  | n + 8, h => by omega
theorem be8_take {x : UInt64} {k : Nat} (h : k < 8) : (be8 x).take (k + 1) = (be8 x).take k ++ [(shrU64 x (56 - 8 * k)).toUInt8] := by
  have := be8_at x k h
  rw [take_snoc (by simpa using h)]
  rw [List.getElem?_eq_getElem (by simpa using h)] at this
  rw [Option.some.inj this]

/-- what the digest's end is made of -/
theorem c_sumH {w : World} {p : Nat} {s : Slc} {b : List UInt8} (h : HashAt w p s b) (hg : Glob w) (hn : b.length ≤ 900000000) :
    Calls Tryd.prog 28 #[.pointer (some ⟨p, 0, none⟩)] w (Ret fun v w' => ∃ x : Slc, v = x.val ∧ Sh.Own w' x 1 (bys (sha b)) ∧ FB w x ∧ Mod NoB w w') := by
  refine call28 _ ?_
  unfold sh28
  obtain ⟨i5', h51, h52, h53, h54⟩ := i5
  obtain ⟨i26', h261, h262, h263, h264⟩ := i26
  refine callK_ret (c_copy h hg (by omega)) ?_
  rintro v w1 ⟨p', s1, rfl, hh1, hp1, hs1, hm1⟩
  refine ⟨_, rfl, ps_eql_ptr (e := THash) (by kernel_rfl) ⟨_, rfl, condK_i (fun e => by cases e) fun _ => ?_⟩⟩
  have hFs : FB w s1 := FB.of hs1
  have hp1l := hh1.blk.lt
  have hrl := rest_len b
  have hleft : (rest b).length = s1.len := rd_len8 hh1.own.rd
  refine ⟨UInt64.ofNat b.length, hh1.blk.rd1 (o := 9) (hw9 (st_len b)), ?_⟩
  refine sem_makeSlice (l := 0) (c := 256) u26 h51 h52 h53 rfl h54 rfl rfl (by omega) (by omega) (by omega) fun e0 w2 hN2 hb2 ho2 => ⟨⟨_, _, _⟩, rfl, ?_⟩
  have hm2 : Mod NoB w w2 := hm1.tr hN2.mod
  have hf2 : FB w ⟨some ⟨e0, 0, none⟩, 0, 256⟩ := FB.new (by rw [hN2.at_]; exact hm1.size)
  have hsep : ∀ (w' : World), Mod NoB w1 w' → HashAt w' p' s1 b := fun w' hm => hh1.no hm
  -- every block from here on lies behind w1
  have hf2' : FB w1 ⟨some ⟨e0, 0, none⟩, 0, 256⟩ := FB.new (by rw [hN2.at_]; exact Nat.le_refl _)
  refine sem_byte (w0 := w1) (l := []) (c := 128) (s := ⟨some ⟨e0, 0, none⟩, 0, 256⟩) ho2 hf2' hN2.mod (by simp) fun s3 w3 ho3 hf3 hm3 hl3 => ?_
  refine ⟨fun l w' => match l with | [.sl q] => ∃ j : Nat, j ≤ padZ b.length ∧ Sh.Own w' q 1 (bys ([128] ++ List.replicate j 0)) ∧ FB w1 q ∧ Mod NoB w1 w' | _ => False, fun l _ => match l with | [.sl q] => 1 + padZ b.length - q.len | _ => 0, ⟨0, by omega, ho3, hf3, hm3⟩, ?_⟩
  rintro q w4 ⟨j, hj, hoq, hfq, hm4⟩
  have hql : q.len = 1 + j := by have := rd_len8 hoq.rd; simp at this; omega
  have hh4 := hsep w4 hm4
  have hpz : padZ b.length < 128 := Nat.mod_lt _ (by decide)
  have hpz2 : padZ b.length = (239 - b.length % 128) % 128 := rfl
  have hw : IntKind.i64.wrap ((s1.len : Int) + (q.len : Int)) = ((s1.len + q.len : Nat) : Int) := by rw [wrap_i64 (by omega)]; omega
  refine ⟨s1, hh4.blk.rd1 (o := 8) (hw8 (st_len b)), by decide, ?_⟩
  rw [hw]
  have htm : Int.tmod ((s1.len + q.len : Nat) : Int) (128 : Int) = ((s1.len + q.len) % 128 : Nat) := rfl
  rw [htm]
  refine condK_i (fun hc => ?_) (fun hc => ?_)
  · have hne : (s1.len + q.len) % 128 ≠ 112 := by simp at hc; omega
    have hjlt : j < padZ b.length := by omega
    refine sem_byte (w0 := w1) (c := 0) hoq hfq hm4 (by simp; omega) fun s5 w5 ho5 hf5 hm5 hl5 => ⟨⟨j + 1, by omega, ?_, hf5, hm5⟩, by (try simp only []); omega⟩
    rw [List.append_assoc, ← List.replicate_succ'] at ho5
    exact ho5
  · have heq : (s1.len + q.len) % 128 = 112 := by simp at hc; omega
    have hjeq : j = padZ b.length := by omega
    subst hjeq
    refine sem_append_zeros (t2 := 3) (k2 := .i64) (z := .int .u8 0) (n := 8) (s := q) u26 (by kernel_rfl) h51 h52 h53 rfl rfl h54 rfl hoq (by omega) (by omega) fun s5 w5 ho5 hl5 hblk5 hm5 => ⟨s5, rfl, ?_⟩
    rw [bys_rep, ← bys_app] at ho5
    have hf5 := hfq.step hm4.size hblk5
    have hm5 := hfq.mod hm4 hm5
    refine ⟨fun l w' => match l with | [.sl q, .i _ s] => ∃ k : Nat, s = 56 - 8 * (k : Int) ∧ k ≤ 8 ∧ Sh.Own w' q 1 (bys ([128] ++ List.replicate (padZ b.length) 0 ++ List.replicate 8 0 ++ (be8 (8 * UInt64.ofNat b.length)).take k)) ∧ FB w1 q ∧ Mod NoB w1 w' | _ => False,
      fun l _ => match l with | [.sl q, .i _ s] => (s + 8).toNat | _ => 0, ⟨0, by omega, by omega, by simpa using ho5, hf5, hm5⟩, ?_⟩
    rintro q6 t w6 ⟨k, rfl, hk, ho6, hf6, hm6⟩
    refine condK_i (fun hc => ?_) (fun hc => ?_)
    · have hk8 : k < 8 := by simp at hc; omega
      have hsN : (56 - 8 * (k : Int)).toNat = 56 - 8 * k := by omega
      rw [hsN]
      refine ⟨by omega, sem_byte (w0 := w1) ho6 hf6 hm6 (by simp; omega) fun s7 w7 ho7 hf7 hm7 hl7 => ⟨⟨k + 1, ?_, by omega, ?_, hf7, hm7⟩, ?_⟩⟩
      · rw [wrap_i64 (by omega)]; omega
      · rw [be8_take hk8, ← List.append_assoc]; exact ho7
      · rw [wrap_i64 (by omega)]; (try simp only []); omega
    · have hk8 : k = 8 := by simp at hc; omega
      subst hk8
      rw [List.take_of_length_le (by simp)] at ho6
      have hpe : [128] ++ List.replicate (padZ b.length) 0 ++ List.replicate 8 0 ++ be8 (8 * UInt64.ofNat b.length) = padEnd b.length := rfl
      rw [hpe] at ho6
      have hq6 := rd_len8 ho6.rd
      have hpel : (padEnd b.length).length ≤ 256 := (pad_len b).2
      refine sem_lit (l := [q6.val]) [q6.val] u22 h261 h262 h263 (by decide) rfl (by decide) (by decide) rfl (by simp [Slc.val, Value.cells]) rfl fun e7 w7 hN7 hb7 => ⟨⟨_, _, _⟩, rfl, ?_⟩
      have hm7 := hm6.tr hN7.mod
      have hh7 := hsep w7 hm7
      have ho7 := ho6.no hN7.mod
      have he7 := hN7.at_
      have hq6l : ∀ x, q6.blk = some x → w1.heap.size ≤ x ∧ x < w6.heap.size := fun x hx => ⟨hf6 x hx, ho6.lt hx⟩
      have hs1l : ∀ x, s1.blk = some x → x < w1.heap.size := fun x hx => hh1.own.lt hx
      have hm6s := hm6.size
      have hsz7 := hN7.size
      have hparts : PartsAt w7 ⟨some ⟨e7, 0, none⟩, 1, 1⟩ [padEnd b.length] (fun x => x = e7 ∨ q6.blk = some x) := by
        refine ⟨[q6], (own_whole (n := 1) (k := 1) hb7 rfl).rd, fun x hx => .inl ?_, rfl, fun i hi hi' => ?_⟩
        · simp at hx; omega
        · have : i = 0 := by simp at hi; omega
          subst this
          exact ⟨ho7.rd, fun x hx => .inr hx⟩
      refine callK_ret (c_write hh7 (hg.no (hm1.tr hm7)) hparts (fun e => e.elim (fun e => by omega) fun e => by have := hq6l _ e; omega) (fun x hx e => e.elim (fun e => by have := hs1l x hx; omega) fun e => by have := hq6l _ e; have := hs1l x hx; omega)
        (fun x e => e.elim (fun e => by omega) fun e => by have := hq6l _ e; omega) (by simp; omega) (by simp)) ?_
      rintro v w8 ⟨rfl, s8, hh8, hb8, hm8⟩
      have hm8' : Mod NoB w w8 := (hm1.tr hm7).fresh hm8 fun x e => e.elim (fun e => by omega) fun e => hFs x e
      have hpad : b ++ [padEnd b.length].flatten = pad b := by simp [pad]
      rw [hpad] at hh8
      obtain ⟨k0, k1, k2, k3, k4, k5, k6, k7, hst⟩ := list8 (st_len (pad b))
      have hB8 := hh8.blk
      rw [hst] at hB8
      have hsha : sha b = digest [k0, k1, k2, k3, k4, k5, k6, k7] := by unfold sha; rw [shaBy_eq, hst]
      refine ⟨_, rfl, k0, k1, k2, k3, k4, k5, k6, k7, hB8.rd (o := 0) (vs := us [k0, k1, k2, k3, k4, k5, k6, k7]) (fun j v hj => by
        rw [Nat.zero_add]; unfold HW; rw [List.getElem?_append_left (List.getElem?_eq_some_iff.1 hj).1, hj]), ?_⟩
      rw [hsha]
      obtain ⟨st, hstd⟩ : ∃ st, st = [k0, k1, k2, k3, k4, k5, k6, k7] := ⟨_, rfl⟩
      have hstl : st.length = 8 := by rw [hstd]; rfl
      have htv : ([.u64 k0, .u64 k1, .u64 k2, .u64 k3, .u64 k4, .u64 k5, .u64 k6, .u64 k7] : List TV) = st.map TV.u64 := by rw [hstd]; rfl
      rw [htv, ← hstd]
      refine ⟨fun l w' => match l with | [.sl q, .i _ x] => ∃ i : Nat, x = i ∧ i ≤ 8 ∧ Sh.Own w' q 1 (bys (digest (st.take i))) ∧ FB w q ∧ Mod NoB w w' | _ => False, fun l _ => match l with | [.sl q, .i _ x] => (8 - x).toNat | _ => 0,
        ⟨0, rfl, by omega, own_nil _ _, FB.nil _, hm8'⟩, ?_⟩
      rintro out x w9 ⟨i, rfl, hi, ho9, hf9, hm9⟩
      have hdl : ∀ (l : List UInt64), (digest l).length = 8 * l.length := fun l => by
        induction l with
        | nil => rfl
        | cons a l ih => simp [digest] at ih ⊢; omega
      refine condK_i (fun hc => ?_) (fun hc => ?_)
      · have hi8 : i < 8 := by simp at hc; omega
        refine ⟨⟨by omega, by omega⟩, ?_, st[i], ?_, ?_⟩
        · intro z hz
          obtain ⟨y, _, rfl⟩ := List.mem_map.1 hz
          rfl
        · rw [Int.toNat_natCast, List.getElem?_map, List.getElem?_eq_getElem (by omega)]; rfl
        refine ⟨fun l w' => match l with | [.sl q, .i _ s] => ∃ k : Nat, s = 56 - 8 * (k : Int) ∧ k ≤ 8 ∧ Sh.Own w' q 1 (bys (digest (st.take i) ++ (be8 st[i]).take k)) ∧ FB w q ∧ Mod NoB w w' | _ => False,
          fun l _ => match l with | [.sl q, .i _ s] => (s + 8).toNat | _ => 0, ⟨0, by omega, by omega, by simpa using ho9, hf9, hm9⟩, ?_⟩
        rintro q10 t w10 ⟨k, rfl, hk, ho10, hf10, hm10⟩
        refine condK_i (fun hc => ?_) (fun hc => ?_)
        · have hk8 : k < 8 := by simp at hc; omega
          have hsN : (56 - 8 * (k : Int)).toNat = 56 - 8 * k := by omega
          rw [hsN]
          refine ⟨by omega, sem_byte (w0 := w) ho10 hf10 hm10 (by simp [hdl]; omega) fun s7 w7 ho7 hf7 hm7 hl7 => ⟨⟨k + 1, ?_, by omega, ?_, hf7, hm7⟩, ?_⟩⟩
          · rw [wrap_i64 (by omega)]; omega
          · rw [be8_take hk8, ← List.append_assoc]; exact ho7
          · rw [wrap_i64 (by omega)]; (try simp only []); omega
        · have hk8 : k = 8 := by simp at hc; omega
          subst hk8
          rw [List.take_of_length_le (l := be8 (st[i]'(by omega))) (by rw [be8_len]; omega)] at ho10
          refine ⟨⟨i + 1, wrap_nat (by omega), by omega, ?_, hf10, hm10⟩, ?_⟩
          · rw [take_snoc (by omega)]
            have : digest (st.take i ++ [st[i]]) = digest (st.take i) ++ be8 st[i] := by simp only [digest, List.flatMap_append, List.flatMap_cons, List.flatMap_nil, List.append_nil]
            rw [this]; exact ho10
          · rw [wrap_nat (by omega)]; (try simp only []); omega
      · have hi8 : i = 8 := by simp at hc; omega
        subst hi8
        rw [List.take_of_length_le (by omega)] at ho9
        exact ⟨out, rfl, ho9, hf9, hm9⟩
end Go.Proofs.YtbbfcamopdckmaaDoor
