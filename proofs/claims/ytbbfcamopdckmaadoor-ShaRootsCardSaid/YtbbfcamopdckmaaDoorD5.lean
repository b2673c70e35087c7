/- The reference's numbers by digits: times, above. -/
import Derived.Test.YtbbfcamopdckmaaDoorD4
import Derived.Test.YtbbfcamopdckmaaDoorD2
import Derived.Test.YtbbfcamopdckmaaDoorFnE
set_option linter.unusedSimpArgs false
set_option linter.unusedVariables false
set_option maxRecDepth 100000
namespace Go.Proofs.YtbbfcamopdckmaaDoor
open Go Go.Sh

theorem onSome_of {x : Option Addr} {a : Addr} {K : Addr → Prop} (h : x = some a) (hk : K a) : onSome x K := by rw [h]; exact hk
def ds (l : List Nat) : List Value := l.map fun (n : Nat) => Value.int .u32 (n : Int)
@[simp] theorem ds_len (l : List Nat) : (ds l).length = l.length := by simp [ds]
theorem ds_set (l : List Nat) (i x : Nat) : (ds l).set i (.int .u32 (x : Int)) = ds (l.set i x) := by simp [ds, List.map_set]
theorem rd_d {w w' : World} {s : Slc} {l : List Nat} {a : Addr} {i : Nat} (h : SlRd w s 1 (ds l)) (ha : s.a = some a) (hi : i < l.length) (hm : Mod NoB w w') : Rd w' (a.add (i * 1)) [.int .u32 (dg l i : Int)] := by
  obtain ⟨a', e, hr⟩ := h.at (us := [.int .u32 (dg l i : Int)]) (i := i) (by have := h.1; simp at this; omega) (by omega) fun j u hu => by
    cases j with
    | zero => simp at hu; subst hu; simp [ds, dg, hi]
    | succ j => simp at hu
  rw [ha] at e; cases e
  exact hr.mod hm fun h => h
theorem rd_lenD {w : World} {s : Slc} {l : List Nat} (h : SlRd w s 1 (ds l)) : l.length = s.len := by have := h.1; simpa using this
theorem slc_d {w : World} {s : Slc} {l : List Nat} (h : SlRd w s 1 (ds l)) (hl : 0 < l.length) : ∃ a, s.a = some a := by
  rcases h.2.2 with h0 | ⟨a, e, _⟩
  · have := congrArg List.length h0; rw [ds_len, List.length_nil] at this; omega
  · exact ⟨a, e⟩
theorem uD : Tryd.prog.underlying 132 = some (.slice 133) := by kernel_rfl
theorem i32 : ∃ i, Tryd.prog.info? 133 = some i ∧ i.zero = some (.int .u32 0) ∧ i.size = 1 ∧ i.bytes = 4 := info_of (by kernel_rfl) (by kernel_rfl) (by kernel_rfl)
theorem wrap_u32 {n : Nat} (h : n < 4294967296) : IntKind.u32.wrap (n : Int) = n := by
  simp [IntKind.wrap, IntKind.bits, IntKind.signed]; omega
theorem rep_ds (n : Nat) : List.replicate n (Value.int .u32 0) = ds (List.replicate n 0) := by simp [ds]
theorem dg_rep (n j : Nat) : dg (List.replicate n 0) j = 0 := by
  rcases Nat.lt_or_ge j n with h | h
  · simp [dg, h]
  · exact dg_out (by simpa using h)
theorem u64_step {a b o c : Nat} (ha : a < 65536) (hb : b < 65536) (ho : o < 65536) (hc : c < 65536) : (((UInt64.ofNat a) * (UInt64.ofNat b)) + (UInt64.ofNat o) + (UInt64.ofNat c)).toNat = a * b + o + c := by
  have hab : a * b ≤ 65535 * 65535 := Nat.mul_le_mul (by omega) (by omega)
  rw [UInt64.toNat_add, UInt64.toNat_add, UInt64.toNat_mul, UInt64.toNat_ofNat', UInt64.toNat_ofNat', UInt64.toNat_ofNat', UInt64.toNat_ofNat', Nat.mod_eq_of_lt (show a < 2 ^ 64 by omega), Nat.mod_eq_of_lt (show b < 2 ^ 64 by omega)]
  omega

theorem c_times {w : World} {a b : Slc} {al bl : List Nat} (ha : SlRd w a 1 (ds al)) (hb : SlRd w b 1 (ds bl)) (hal : ∀ j, dg al j < 65536) (hbl : ∀ j, dg bl j < 65536) (hla : al.length ≤ 1000) (hlb : bl.length ≤ 1000) :
    Calls Tryd.prog 83 #[.slice a.a a.len a.cap, .slice b.a b.len b.cap] w (Ret fun v w' => ∃ (x : Slc) (ol : List Nat), v = x.val ∧ Sh.Own w' x 1 (ds ol) ∧ ol.length = al.length + bl.length ∧ (∀ j, dg ol j < 65536) ∧ val ol = val al * val bl ∧ FB w x ∧ Mod NoB w w') := by
  refine call83 _ _ ?_
  unfold sh83
  have hA := rd_lenD ha; have hB := rd_lenD hb
  obtain ⟨i', h1, h2, h3, h4⟩ := i32
  rw [show IntKind.i64.wrap ((a.len : Int) + (b.len : Int)) = ((a.len + b.len : Nat) : Int) by rw [wrap_i64 (by omega)]; omega]
  refine sem_makeSlice (l := a.len + b.len) (c := a.len + b.len) uD h1 h2 h3 rfl h4 rfl rfl (by omega) (by omega) (by omega) fun m w1 hN hb1 ho1 => ⟨⟨some ⟨m, 0, none⟩, a.len + b.len, a.len + b.len⟩, rfl, ?_⟩
  obtain ⟨X, hX⟩ : ∃ X : Slc, X = ⟨some ⟨m, 0, none⟩, a.len + b.len, a.len + b.len⟩ := ⟨_, rfl⟩
  rw [rep_ds, ← hX] at ho1
  have hXl : X.len = a.len + b.len := by rw [hX]
  have hXa : X.a = some ⟨m, 0, none⟩ := by rw [hX]
  have hXf : FB w X := by rw [hX]; exact FB.new (by rw [hN.at_]; exact Nat.le_refl _)
  rw [← hX]
  have hXv : (Value.slice X.a X.len X.cap) = X.val := rfl
  refine ⟨fun l' w' => match l' with | [.i _ i] => ∃ (k : Nat) (ol : List Nat), i = k ∧ k ≤ al.length ∧ ol.length = al.length + bl.length ∧ Sh.Own w' X 1 (ds ol) ∧ (∀ j, dg ol j < 65536) ∧ (∀ j, k + bl.length ≤ j → dg ol j = 0) ∧ V (dg ol) (al.length + bl.length) = V (dg al) k * val bl ∧ Mod NoB w w' | _ => False,
    fun l' _ => match l' with | [.i _ i] => (al.length - i).toNat | _ => 0, ⟨0, List.replicate (a.len + b.len) 0, rfl, by omega, by simp; omega, ho1, fun j => by rw [dg_rep]; decide, fun j _ => dg_rep _ _, ?_, hN.mod⟩, ?_⟩
  · rw [V_zero (m := 0) (fun j _ => dg_rep _ _) _ (by omega)]; simp [V]
  rintro i w2 ⟨k, ol, rfl, hk, hol, ho, hlt, hz, hv, hm2⟩
  refine condK_i (fun hc => ?_) fun hc => ?_
  · have hk' : k < al.length := by simp at hc; omega
    obtain ⟨aa, ea⟩ := slc_d ha (by omega)
    refine ⟨fun l' w' => match l' with | [.i _ c, .i _ i] => ∃ (c' q : Nat) (ol : List Nat), c = c' ∧ i = q ∧ q ≤ bl.length ∧ c' < 65536 ∧ ol.length = al.length + bl.length ∧ Sh.Own w' X 1 (ds ol) ∧ (∀ j, dg ol j < 65536) ∧ (∀ j, k + bl.length ≤ j → dg ol j = 0) ∧ V (dg ol) (al.length + bl.length) + c' * 65536 ^ (k + q) = V (dg al) k * val bl + dg al k * 65536 ^ k * V (dg bl) q ∧ Mod NoB w w' | _ => False,
      fun l' _ => match l' with | [.i _ c, .i _ i] => (bl.length - i).toNat | _ => 0, ⟨0, 0, ol, rfl, rfl, by omega, by omega, hol, ho, hlt, hz, by simp [V, hv], hm2⟩, ?_⟩
    rintro c q w3 ⟨c', q', ol, rfl, rfl, hq, hc', hol, ho, hlt, hz, hv, hm3⟩
    refine condK_i (fun hc => ?_) fun hc => ?_
    · have hq' : q' < bl.length := by simp at hc; omega
      obtain ⟨ba, eb⟩ := slc_d hb (by omega)
      rw [show IntKind.i64.wrap ((k : Int) + (q' : Int)) = ((k + q' : Nat) : Int) by rw [wrap_i64 (by omega)]; omega]
      refine ⟨⟨by omega, by omega⟩, onSome_of ea ⟨⟨by omega, by omega⟩, onSome_of eb ⟨⟨by omega, by omega⟩, onSome_of hXa ⟨(dg al k : Nat), rd_d ha ea hk' hm3.dr, (dg bl q' : Nat), rd_d hb eb hq' hm3.dr, (dg ol (k + q') : Nat), rd_d ho.rd hXa (by omega) (Mod.drew _ _), by decide, ⟨by omega, by omega⟩, onSome_of hXa ?_⟩⟩⟩⟩
      have hx : (((u64OfInt ((dg al k : Nat) : Int)) * (u64OfInt ((dg bl q' : Nat) : Int)) + (u64OfInt ((dg ol (k + q') : Nat) : Int)) + (u64OfInt ((c' : Nat) : Int)))).toNat = dg al k * dg bl q' + dg ol (k + q') + c' := by
        rw [u64_nat, u64_nat, u64_nat, u64_nat]
        exact u64_step (hal k) (hbl q') (hlt _) hc'
      obtain ⟨x, hxd⟩ : ∃ x, x = dg al k * dg bl q' + dg ol (k + q') + c' := ⟨_, rfl⟩
      have hxb : x < 4294967296 := by
        have h1 := hal k; have h2 := hbl q'; have h3 := hlt (k + q')
        have : dg al k * dg bl q' ≤ 65535 * 65535 := Nat.mul_le_mul (by omega) (by omega)
        omega
      rw [← hxd] at hx
      rw [UInt64.toNat_mod, UInt64.toNat_div, hx, show (65536 : UInt64).toNat = 65536 from rfl, wrap_u32 (by omega), wrap_u32 (by omega)]
      refine semU_own1 (i := k + q') (by kernel_rfl) (by kernel_rfl) rfl (ho.no (Mod.drew _ _)) hXa (by omega) fun w4 ho4 hm4 hs4 => ?_
      rw [ds_set] at ho4
      rw [wrap_nat (by omega)]
      have hv' := V_set (l := ol) (x := x % 65536) (i := k + q') (by omega) (al.length + bl.length) (by omega)
      refine ⟨by decide, ⟨x / 65536, q' + 1, _, rfl, rfl, by omega, by omega, by simp [hol], ho4, fun j => ?_, fun j hj => ?_, ?_, hm3.dr.fresh hm4 fun y hy => hXf y hy⟩, by (try simp only []); omega⟩
      · rw [dg_set (by omega)]
        split
        · omega
        · exact hlt j
      · rw [dg_set (by omega), if_neg (by omega)]; exact hz j hj
      · have := times_step hxd hv'
        rw [← Nat.add_assoc, Nat.pow_succ, this, hv, V, Nat.mul_add, Nat.pow_add]
        have e : dg al k * dg bl q' * (65536 ^ k * 65536 ^ q') = dg al k * 65536 ^ k * (dg bl q' * 65536 ^ q') := by
          rw [Nat.mul_assoc, Nat.mul_assoc, Nat.mul_left_comm (dg bl q')]
        omega
    · have hq' : q' = bl.length := by simp at hc; omega
      subst hq'
      rw [show IntKind.i64.wrap ((k : Int) + (b.len : Int)) = ((k + bl.length : Nat) : Int) by rw [wrap_i64 (by omega)]; omega]
      refine ⟨⟨by omega, by omega⟩, onSome_of hXa ?_⟩
      refine semU_own1 (i := k + bl.length) (by kernel_rfl) (by kernel_rfl) rfl ho hXa (by omega) fun w4 ho4 hm4 hs4 => ?_
      rw [ds_set] at ho4
      rw [wrap_nat (by omega)]
      have hv' := V_set (l := ol) (x := c') (i := k + bl.length) (by omega) (al.length + bl.length) (by omega)
      rw [hz _ (Nat.le_refl _)] at hv'
      refine ⟨⟨k + 1, _, rfl, by omega, by simp [hol], ho4, fun j => ?_, fun j hj => ?_, ?_, hm3.fresh hm4 fun y hy => hXf y hy⟩, by (try simp only []); omega⟩
      · rw [dg_set (by omega)]
        split
        · exact hc'
        · exact hlt j
      · rw [dg_set (by omega), if_neg (by omega)]; exact hz j (by omega)
      · have hbv : V (dg bl) bl.length = val bl := rfl
        rw [hbv] at hv
        rw [V, Nat.add_mul, ← hv]
        omega
  · have hk' : k = al.length := by simp at hc; omega
    subst hk'
    exact ⟨X, ol, rfl, ho, hol, hlt, by rw [val, hol, hv]; rfl, hXf, hm2⟩

theorem c_above {w : World} {a b : Slc} {al bl : List Nat} (ha : SlRd w a 1 (ds al)) (hb : SlRd w b 1 (ds bl)) (hal : ∀ j, dg al j < 65536) (hbl : ∀ j, dg bl j < 65536) (hla : al.length ≤ 1000) (hlb : bl.length ≤ 1000) :
    Calls Tryd.prog 84 #[.slice a.a a.len a.cap, .slice b.a b.len b.cap] w (Ret fun v w' => v = .bool (decide (val bl < val al)) ∧ w' = w) := by
  refine call84 _ _ ?_
  unfold sh84
  have hA := rd_lenD ha; have hB := rd_lenD hb
  obtain ⟨n, hn⟩ : ∃ n, n = max a.len b.len := ⟨_, rfl⟩
  have e0 : IntKind.i64.wrap ((if (b.len : Int) > (a.len : Int) then (b.len : Int) else (a.len : Int)) - (1 : Int)) = (n : Int) - 1 := by
    rw [hn]; split <;> rw [wrap_i64 (by omega)] <;> omega
  rw [e0]
  have va : V (dg al) n = val al := V_val (by omega)
  have vb : V (dg bl) n = val bl := V_val (by omega)
  refine ⟨fun l' w' => match l' with | [.i _ i] => ∃ m : Nat, i = (m : Int) - 1 ∧ m ≤ n ∧ V (dg al) n + V (dg bl) m = V (dg bl) n + V (dg al) m ∧ w' = w | _ => False, fun l' _ => match l' with | [.i _ i] => (i + 1).toNat | _ => 0, ⟨n, rfl, by omega, by omega, rfl⟩, ?_⟩
  rintro i w1 ⟨m, rfl, hm, he, rfl⟩
  refine condK_i (fun hc => ?_) fun hc => ?_
  · obtain ⟨m, rfl⟩ : ∃ q, m = q + 1 := ⟨m - 1, by simp at hc; omega⟩
    rw [show (((m + 1 : Nat) : Int) - 1) = (m : Int) by omega]
    refine ⟨fun l' w' => l' = [.i .u32 (dg al m : Int)] ∧ w' = w1, condK_i (fun hc => ?_) fun hc => ?_, ?_⟩
    · have : m < al.length := by simp at hc; omega
      obtain ⟨aa, ea⟩ := slc_d ha (by omega)
      exact ⟨⟨by omega, by omega⟩, onSome_of ea ⟨_, rd_d ha ea this (Mod.refl _ _), rfl, rfl⟩⟩
    · exact ⟨by rw [dg_out (l := al) (by simp at hc; omega)]; rfl, rfl⟩
    rintro x w2 ⟨hx, rfl⟩
    simp at hx; subst hx
    refine ⟨fun l' w' => l' = [.i .u32 (dg bl m : Int)] ∧ w' = w2, condK_i (fun hc => ?_) fun hc => ?_, ?_⟩
    · have : m < bl.length := by simp at hc; omega
      obtain ⟨ba, eb⟩ := slc_d hb (by omega)
      exact ⟨⟨by omega, by omega⟩, onSome_of eb ⟨_, rd_d hb eb this (Mod.refl _ _), rfl, rfl⟩⟩
    · exact ⟨by rw [dg_out (l := bl) (by simp at hc; omega)]; rfl, rfl⟩
    rintro y w3 ⟨hy, rfl⟩
    simp at hy; subst hy
    refine condK_i (fun hc => ⟨?_, rfl⟩) fun hc => ⟨⟨m, by rw [wrap_i64 (by omega)], by omega, ?_, rfl⟩, ?_⟩
    · have hne : dg al m ≠ dg bl m := by simp at hc; omega
      congr 1
      rcases Nat.lt_or_ge (dg bl m) (dg al m) with h | h
      · have := above_of hbl he h
        rw [va, vb] at this
        simp [this, h]
      · have := above_of hal he.symm (by omega)
        rw [va, vb] at this
        simp [show ¬ val bl < val al by omega]; omega
    · have heq : dg al m = dg bl m := by simp at hc; omega
      simp only [V, heq] at he
      omega
    · rw [wrap_i64 (by omega)]; (try simp only []); omega
  · have hm0 : m = 0 := by simp at hc; omega
    subst hm0
    simp only [V] at he
    refine ⟨?_, rfl⟩
    rw [show ¬ val bl < val al by omega |> decide_eq_false]
end Go.Proofs.YtbbfcamopdckmaaDoor
