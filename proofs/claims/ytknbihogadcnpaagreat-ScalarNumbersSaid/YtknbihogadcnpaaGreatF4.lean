/- The kit's flat: lists of bytes that lie apart, written over and grown, stay apart. -/
import Derived.Test.YtknbihogadcnpaaGreatF1
import Derived.Test.YtknbihogadcnpaaGreatF0
set_option linter.unusedSimpArgs false
set_option linter.unusedVariables false
set_option maxRecDepth 100000
namespace Go.Proofs.YtknbihogadcnpaaGreat
open Go Go.Sh

theorem onSome_of {x : Option Addr} {a : Addr} {K : Addr → Prop} (h : x = some a) (hk : K a) : onSome x K := by rw [h]; exact hk
def sl (ss : List Slc) (k : Nat) : Slc := ss.getD k ⟨none, 0, 0⟩
theorem sl_eq {ss : List Slc} {k : Nat} (h : k < ss.length) : sl ss k = ss[k] := by rw [sl, List.getD, List.getElem?_eq_getElem h]; rfl
theorem sl_set {ss : List Slc} {k j : Nat} {g : Slc} (h : k < ss.length) : sl (ss.set k g) j = if k = j then g else sl ss j := by
  unfold sl
  rw [List.getD, List.getD, List.getElem?_set]
  split
  · next e => subst e; simp [h]
  · rfl
/-- marks of a list -/
def mks (k : Nat) : Nat → List UInt8
  | 0 => []
  | n + 1 => mks k n ++ [mb k n]
@[simp] theorem mks_len (k : Nat) : ∀ n, (mks k n).length = n
  | 0 => rfl
  | n + 1 => by simp [mks, mks_len k n]
theorem mks_at (k : Nat) : ∀ (n i : Nat), i < n → (mks k n)[i]? = some (mb k i)
  | 0, i, h => by omega
  | n + 1, i, h => by
    rcases Nat.lt_or_ge i n with h' | h'
    · rw [mks, List.getElem?_append_left (by simpa using h'), mks_at k n i h']
    · have : i = n := by omega
      subst this
      rw [mks, List.getElem?_append_right (by simp)]; simp
theorem mks_take (k : Nat) {n m : Nat} (h : n ≤ m) : (mks k m).take n = mks k n := by
  induction m with
  | zero => have : n = 0 := by omega
            subst this; rfl
  | succ m ih =>
    rcases Nat.lt_or_ge m n with h' | h'
    · have : n = m + 1 := by omega
      subst this; rw [List.take_of_length_le (by simp)]
    · rw [mks, List.take_append_of_le_length (by simpa using h'), ih h']
theorem bys_take (l : List UInt8) (n : Nat) : (bys l).take n = bys (l.take n) := by simp [bys, List.map_take]
theorem own_a {w : World} {s : Slc} {vs : List Value} (h : Sh.Own w s 1 vs) (hl : 0 < s.len) : ∃ a, s.a = some a := by
  rcases h.owned with ⟨_, h0, _⟩ | ⟨_, b, o, _, _, e, _⟩
  · omega
  · exact ⟨_, e⟩
theorem rd_b {w w' : World} {s : Slc} {l : List UInt8} {a : Addr} {i : Nat} {c : UInt8} (h : SlRd w s 1 (bys l)) (ha : s.a = some a) (hc : l[i]? = some c) (hm : Mod NoB w w') : Rd w' (a.add (i * 1)) [.int .u8 c.toNat] := by
  obtain ⟨hi, hv⟩ := List.getElem?_eq_some_iff.1 hc
  obtain ⟨a', e, hr⟩ := rd_u8 h hi
  rw [ha] at e; cases e
  rw [hv] at hr
  exact hr.mod hm fun h => h
theorem rd_s {w w' : World} {s : Slc} {ss : List Slc} {a : Addr} {k : Nat} (h : SlRd w s 1 (ss.map Slc.val)) (ha : s.a = some a) (hk : k < ss.length) (hm : Mod NoB w w') : Rd w' (a.add (k * 1)) [(sl ss k).val] := by
  obtain ⟨a', e, hr⟩ := rd_slc h hk
  rw [ha] at e; cases e
  rw [sl_eq hk]
  exact hr.mod hm fun h => h
theorem row_a {w : World} {s : Slc} {ss : List Slc} (h : SlRd w s 1 (ss.map Slc.val)) (hk : 0 < ss.length) : ∃ a, s.a = some a := by
  obtain ⟨a', e, _⟩ := rd_slc h hk; exact ⟨a', e⟩
theorem blk_eq {s t : Slc} (h1 : s.a = t.a) (h2 : s.cap = t.cap) : s.blk = t.blk := by unfold Slc.blk; rw [h1, h2]

/-- append(s, c): one byte, within the room or in a new block -/
theorem sem_byte2 {K : Slc → World → Prop} {w : World} {s : Slc} {l : List UInt8} {c : UInt8} (hs : Sh.Own w s 1 (bys l)) (hn : l.length ≤ 2000000000)
    (hK1 : ∀ w', Sh.Own w' ⟨s.a, s.len + 1, s.cap⟩ 1 (bys (l ++ [c])) → Mod (fun b => s.blk = some b) w w' → K ⟨s.a, s.len + 1, s.cap⟩ w')
    (hK2 : ∀ b cp w', w.heap.size ≤ b → Sh.Own w' ⟨some ⟨b, 0, none⟩, s.len + 1, cp⟩ 1 (bys (l ++ [c])) → s.len + 1 ≤ cp → Mod NoB w w' → K ⟨some ⟨b, 0, none⟩, s.len + 1, cp⟩ w') :
    semK Tryz.prog (Instr.buildSlice 22 1 #[(0, (.int .u8 c.toNat))]) w fun v w2 => ∃ x1 : Slc, v = (.slice x1.a x1.len x1.cap) ∧ semK Tryz.prog (Builtin.append_ #[22, 22] 22 #[(.slice s.a s.len s.cap), (.slice x1.a x1.len x1.cap)]) w2 fun v1 w3 => ∃ x2 : Slc, v1 = (.slice x2.a x2.len x2.cap) ∧ K x2 w3 := by
  obtain ⟨i5', h51, h52, h53, h54⟩ := i5
  have hl := rd_len8 hs.rd
  refine sem_lit (l := [.int .u8 c.toNat]) [.int .u8 c.toNat] u26 h51 h52 h53 (by decide) rfl (by decide) (by decide) rfl (by simp [Value.cells]) rfl fun b w1 hN hb => ⟨⟨some ⟨b, 0, none⟩, 1, 1⟩, rfl, ?_⟩
  refine sem_append2 (x := ⟨some ⟨b, 0, none⟩, 1, 1⟩) u26 h51 h52 h53 rfl h54 (hs.no hN.mod) (own_whole (n := 1) (k := 1) hb rfl).rd (bys_one [c]) (by simp only []; omega) (by simp only []; omega) (fun _ w2 ho hm _ => ⟨_, rfl, hK1 w2 ?_ (hN.mod.no hm)⟩) (fun hc cp w2 ho hcp hm _ => ⟨⟨some ⟨w1.heap.size, 0, none⟩, s.len + 1, cp⟩, rfl, hK2 _ cp w2 hN.mod.size ?_ hcp (hN.mod.tr hm)⟩)
  · rw [bys_app]; exact ho
  · rw [bys_app]; exact ho

/-- blocks of lists -/
def UB (ss : List Slc) (x : Nat) : Prop := ∃ k, k < ss.length ∧ (sl ss k).blk = some x
/-- how lists have grown -/
def Grown (n0 : Nat) (w : World) (s g : Slc) (l : List UInt8) : Prop := Sh.Own w g 1 (bys l) ∧ (g.blk = s.blk ∨ ∃ b, g.blk = some b ∧ n0 ≤ b)

theorem c_flatBytes {w : World} {ls : Slc} {ss : List Slc} (hls : SlRd w ls 1 (ss.map Slc.val)) (hlb : ∀ k, k < ss.length → ∀ x, (sl ss k).blk = some x → ls.blk ≠ some x)
    (ho : ∀ k, k < ss.length → (∃ vs, Sh.Own w (sl ss k) 1 vs) ∧ (sl ss k).len ≤ 1000000000) (hd : ∀ i j, i < ss.length → j < ss.length → i ≠ j → ∀ x, (sl ss i).blk = some x → (sl ss j).blk ≠ some x) (hn : ss.length ≤ 1000000) :
    Calls Tryz.prog 47 #[.slice ls.a ls.len ls.cap] w (Ret fun v w' => v = .bool true ∧ Mod (UB ss) w w') := by
  refine call47 _ ?_
  unfold sh47
  obtain ⟨i26', h261, h262, h263, h264⟩ := i26
  obtain ⟨i5', h51, h52, h53, h54⟩ := i5
  have hN : ss.length = ls.len := by have := hls.1; simp at this; omega
  have hlsm : ∀ w', Mod (UB ss) w w' → SlRd w' ls 1 (ss.map Slc.val) := fun w' hm => hls.mod hm fun b hb ⟨k, hk, e⟩ => hlb k hk b e hb
  have hub : ∀ k, k < ss.length → ∀ x, (sl ss k).blk = some x → x < w.heap.size := fun k hk x hx => by obtain ⟨⟨vs, h⟩, _⟩ := ho k hk; exact h.lt hx
  have hUk : ∀ {a b : World} (k : Nat), k < ss.length → Mod (UB ss) w a → Mod (fun x => (sl ss k).blk = some x) a b → Mod (UB ss) w b := fun k hk h1 h2 => h1.trans h2 (fun _ _ h => h) fun x _ hx => ⟨k, hk, hx⟩
  -- loop 1
  refine ⟨fun l' w' => match l' with | [.i _ k] => ∃ k' : Nat, k = k' ∧ k' ≤ ss.length ∧ (∀ j, j < k' → Sh.Own w' (sl ss j) 1 (bys (mks j (sl ss j).len))) ∧ (∀ j, k' ≤ j → j < ss.length → ∃ vs, Sh.Own w' (sl ss j) 1 vs) ∧ Mod (UB ss) w w' | _ => False,
    fun l' _ => match l' with | [.i _ k] => (ss.length - k).toNat | _ => 0, ⟨0, rfl, by omega, fun j hj => by omega, fun j _ hj => (ho j hj).1, Mod.refl _ _⟩, ?_⟩
  rintro k w1 ⟨k', rfl, hk, hdone, htodo, hm1⟩
  refine condK_i (fun hlt => ?_) fun hge => ?_
  · have hk' : k' < ss.length := by simp at hlt; omega
    obtain ⟨la, el⟩ := row_a hls (by omega)
    obtain ⟨vs0, hvs0⟩ := htodo k' (Nat.le_refl _) hk'
    refine ⟨fun l' w' => match l' with | [.i _ i] => ∃ (i' : Nat) (vs : List Value), i = i' ∧ i' ≤ (sl ss k').len ∧ Sh.Own w' (sl ss k') 1 vs ∧ vs.take i' = bys (mks k' i') ∧ Mod (fun x => (sl ss k').blk = some x) w1 w' | _ => False,
      fun l' _ => match l' with | [.i _ i] => ((sl ss k').len - i).toNat | _ => 0, ⟨0, vs0, rfl, by omega, hvs0, rfl, Mod.refl _ _⟩, ?_⟩
    rintro i w2 ⟨i', vs, rfl, hi, hvs, htk, hm2⟩
    have hrl : ∀ w', Mod NoB w2 w' → Rd w' (la.add (k' * 1)) [(sl ss k').val] := fun w' hm => rd_s (hlsm w2 (hUk k' hk' hm1 hm2)) el hk' hm
    have hlen := (ho k' hk').2
    refine ⟨⟨by omega, by omega⟩, onSome_of el ⟨sl ss k', hrl _ (Mod.refl _ _), condK_i (fun hlt => ?_) fun hge => ?_⟩⟩
    · have hi' : i' < (sl ss k').len := by simp at hlt; omega
      obtain ⟨sa, es⟩ := own_a hvs (by omega)
      refine ⟨fun w' => w' = w2.drew, rfl, ⟨by omega, by omega⟩, onSome_of el ⟨sl ss k', fun w' e => e ▸ hrl _ (Mod.drew _ _), ?_, trivial⟩⟩
      refine callK_ret c_markByte ?_
      rintro v w3 ⟨rfl, rfl⟩
      refine ⟨_, rfl, rfl, ⟨by omega, by omega⟩, onSome_of es ⟨?_, trivial⟩⟩
      refine semU_own1 (i := i') (by kernel_rfl) (by kernel_rfl) rfl (hvs.no (Mod.drew _ _)) es hi' fun w4 ho4 hm4 hs4 => ?_
      rw [wrap_nat (by omega)]
      refine ⟨⟨i' + 1, _, rfl, by omega, ho4, ?_, hm2.dr.tr hm4⟩, by (try simp only []); omega⟩
      have hvl : vs.length = (sl ss k').len := by have := hvs.1; omega
      rw [mks, bys_app, ← htk, List.take_succ_eq_append_getElem (by rw [List.length_set]; omega), List.take_set_of_le (Nat.le_refl _), List.getElem_set_self]
      rfl
    · have hi' : i' = (sl ss k').len := by simp at hge; omega
      have hvl : vs.length = (sl ss k').len := by have := hvs.1; omega
      rw [hi', List.take_of_length_le (by omega)] at htk
      subst htk
      rw [wrap_nat (by omega)]
      refine ⟨⟨k' + 1, rfl, by omega, fun j hj => ?_, fun j hj1 hj2 => ?_, hUk k' hk' hm1 hm2⟩, by (try simp only []); omega⟩
      · rcases Nat.lt_or_ge j k' with h | h
        · exact (hdone j h).mod hm2 fun b hb hb' => hd j k' (by omega) hk' (by omega) b hb hb'
        · have : j = k' := by omega
          subst this; exact hvs
      · obtain ⟨vs', h⟩ := htodo j (by omega) hj2
        exact ⟨vs', h.mod hm2 fun b hb hb' => hd j k' hj2 hk' (by omega) b hb hb'⟩
  have hkN : k' = ss.length := by simp at hge; omega
  subst hkN
  -- what has grown
  refine sem_makeSlice (l := ls.len) (c := ls.len) u22 h261 h262 h263 rfl h264 rfl rfl (by omega) (by omega) (by omega) fun G w5 hN5 hb5 ho5 => ⟨⟨some ⟨G, 0, none⟩, ls.len, ls.len⟩, rfl, ?_⟩
  have hat5 := hN5.at_; have hsz5 := hN5.size
  have hm5 : Mod (UB ss) w w5 := hm1.no' hN5.mod
  have hGw : w.heap.size ≤ G := by have := hm1.size; omega
  have hgu : ∀ k, k < ss.length → ∀ x, (sl ss k).blk = some x → x < G := fun k hk x hx => by have := hub k hk x hx; omega
  have hgb : ∀ x, Slc.blk ⟨some ⟨G, 0, none⟩, ls.len, ls.len⟩ = some x → x = G := fun x hx => by rw [Slc.blk_mk] at hx; split at hx <;> simp_all
  have ho5' : Sh.Own w5 ⟨some ⟨G, 0, none⟩, ls.len, ls.len⟩ 1 ((List.replicate ss.length (⟨none, 0, 0⟩ : Slc)).map Slc.val) := by rw [List.map_replicate, hN]; exact ho5
  -- a list's growth is laid down
  have hstore : ∀ (k : Nat) (gl : List Slc) (g : Slc) (wk w7 : World) (K : World → Prop), k < ss.length → gl.length = ss.length → Sh.Own w7 ⟨some ⟨G, 0, none⟩, ls.len, ls.len⟩ 1 (gl.map Slc.val) →
      (∀ w', Sh.Own w' ⟨some ⟨G, 0, none⟩, ls.len, ls.len⟩ 1 ((gl.set k g).map Slc.val) → Mod (fun x => x = G) w7 w' → K w') → semU Tryz.prog (storeVar 22 ((⟨G, 0, none⟩ : Addr).add (k * 1)) (.slice g.a g.len g.cap)) w7 K := by
    intro k gl g wk w7 K hk hgl hgo hK
    refine semU_own1 (s := ⟨some ⟨G, 0, none⟩, ls.len, ls.len⟩) (i := k) (by kernel_rfl) (by kernel_rfl) rfl hgo rfl (by simp only []; omega) fun w' ho' hm' hs' => hK w' ?_ (hm'.mono fun x _ hx => hgb x hx)
    rw [List.map_set]; exact ho'
  -- growth stays, while another list is written
  have hkeep : ∀ (k j : Nat) (g : Slc) (l : List UInt8) (wa wb : World), k < ss.length → j < ss.length → j ≠ k → Grown w5.heap.size wa (sl ss j) g l → Mod (fun x => (sl ss k).blk = some x) wa wb → Grown w5.heap.size wb (sl ss j) g l := by
    intro k j g l wa wb hk hj hjk ⟨h1, h2⟩ hm
    refine ⟨h1.mod hm fun b hb hb' => ?_, h2⟩
    rcases h2 with h2 | ⟨b', e, hb'2⟩
    · rw [h2] at hb; exact hd j k hj hk hjk b hb hb'
    · rw [e] at hb; cases hb
      have := hgu k hk _ hb'; omega
  have hkeepG : ∀ (j : Nat) (g : Slc) (l : List UInt8) (wa wb : World), j < ss.length → Grown w5.heap.size wa (sl ss j) g l → Mod (fun x => x = G) wa wb → Grown w5.heap.size wb (sl ss j) g l := by
    intro j g l wa wb hj ⟨h1, h2⟩ hm
    refine ⟨h1.mod hm fun b hb hb' => ?_, h2⟩
    subst hb'
    rcases h2 with h2 | ⟨b', e, hb'2⟩
    · rw [h2] at hb; have := hgu j hj _ hb; omega
    · rw [e] at hb; cases hb; omega
  have hkeepS : ∀ (j : Nat) (vs : List Value) (wa wb : World), j < ss.length → Sh.Own wa (sl ss j) 1 vs → Mod (fun x => x = G) wa wb → Sh.Own wb (sl ss j) 1 vs := fun j vs wa wb hj h hm => h.mod hm fun b hb e => by have := hgu j hj b hb; omega
  have hkeepR : ∀ (k : Nat) (vs : List Value) (wa wb : World), k < ss.length → Sh.Own wa ⟨some ⟨G, 0, none⟩, ls.len, ls.len⟩ 1 vs → Mod (fun x => (sl ss k).blk = some x) wa wb → Sh.Own wb ⟨some ⟨G, 0, none⟩, ls.len, ls.len⟩ 1 vs := fun k vs wa wb hk h hm => h.mod hm fun b hb e => by have := hgu k hk b e; have := hgb b hb; omega
  have hUG : ∀ {a b : World}, Mod (UB ss) w a → Mod (fun x => x = G) a b → Mod (UB ss) w b := fun h1 h2 => h1.fresh h2 fun x e => by omega
  -- loop 2
  refine ⟨fun l' w' => match l' with | [.i _ k] => ∃ (k' : Nat) (gl : List Slc), k = k' ∧ k' ≤ ss.length ∧ gl.length = ss.length ∧ Sh.Own w' ⟨some ⟨G, 0, none⟩, ls.len, ls.len⟩ 1 (gl.map Slc.val) ∧ (∀ j, j < k' → Grown w5.heap.size w' (sl ss j) (sl gl j) (mks j ((sl ss j).len + 64)) ∧ (sl gl j).len = (sl ss j).len + 64) ∧ (∀ j, j < ss.length → Sh.Own w' (sl ss j) 1 (bys (mks j (sl ss j).len))) ∧ Mod (UB ss) w w' ∧ w5.heap.size ≤ w'.heap.size | _ => False,
    fun l' _ => match l' with | [.i _ k] => (ss.length - k).toNat | _ => 0, ⟨0, _, rfl, by omega, by simp, ho5', fun j hj => by omega, fun j hj => (hdone j hj).no hN5.mod, hm5, Nat.le_refl _⟩, ?_⟩
  rintro k w6 ⟨k', gl, rfl, hk, hgl, hgo, hgr, hso, hm6, hz6⟩
  refine condK_i (fun hlt => ?_) fun hge => ?_
  · have hk' : k' < ss.length := by simp at hlt; omega
    obtain ⟨la, el⟩ := row_a hls (by omega)
    have hlen := (ho k' hk').2
    refine ⟨⟨by omega, by omega⟩, onSome_of el ⟨sl ss k', rd_s (hlsm w6 hm6) el hk' (Mod.refl _ _), ?_⟩⟩
    refine ⟨fun l' w' => match l' with | [.sl g, .i _ i] => ∃ i' : Nat, i = i' ∧ i' ≤ 64 ∧ Sh.Own w' g 1 (bys (mks k' ((sl ss k').len + i'))) ∧ Sh.Own w' (sl ss k') 1 (bys (mks k' (sl ss k').len)) ∧ ((g.a = (sl ss k').a ∧ g.cap = (sl ss k').cap) ∨ ∃ b, g.blk = some b ∧ w6.heap.size ≤ b) ∧ Mod (fun x => (sl ss k').blk = some x) w6 w' | _ => False,
      fun l' _ => match l' with | [.sl g, .i _ i] => (64 - i).toNat | _ => 0, ⟨0, rfl, by omega, hso k' hk', hso k' hk', .inl ⟨rfl, rfl⟩, Mod.refl _ _⟩, ?_⟩
    rintro g i w7 ⟨i', rfl, hi, hg, hs, hgb', hm7⟩
    have hM7 := hUk k' hk' hm6 hm7
    have hgl' := rd_len8 hg.rd
    rw [mks_len] at hgl'
    refine condK_i (fun hlt => ?_) fun hge => ?_
    · have hi' : i' < 64 := by simp at hlt; omega
      refine ⟨⟨by omega, by omega⟩, onSome_of el ⟨sl ss k', rd_s (hlsm w7 hM7) el hk' (Mod.refl _ _), ?_⟩⟩
      rw [show IntKind.i64.wrap (((sl ss k').len : Int) + (i' : Int)) = (((sl ss k').len + i' : Nat) : Int) by rw [wrap_i64 (by omega)]; omega, wrap_nat (by omega)]
      refine callK_ret c_markByte ?_
      rintro v w8 ⟨rfl, rfl⟩
      refine ⟨_, rfl, sem_byte2 hg (by simp; omega) (fun w9 ho9 hm9 => ?_) fun b cp w9 hb ho9 hcp hm9 => ?_⟩
      · refine ⟨⟨i' + 1, rfl, by omega, ho9, ?_, ?_, ?_⟩, by (try simp only []); omega⟩
        · rcases hgb' with ⟨e1, e2⟩ | ⟨b, e, hb⟩
          · have := ho9.take (n := (sl ss k').len) (by simp only []; omega)
            rw [Nat.mul_one, bys_take, show mks k' ((sl ss k').len + i') ++ [mb k' (((sl ss k').len + i' : Nat) : Int)] = mks k' ((sl ss k').len + i' + 1) from rfl, mks_take k' (by omega)] at this
            rw [e1, e2] at this
            exact this
          · exact hs.mod hm9 fun x hx hx' => by
              rw [e] at hx'; cases hx'
              have := hgu k' hk' _ hx
              omega
        · rcases hgb' with ⟨e1, e2⟩ | ⟨b, e, hb⟩
          · exact .inl ⟨e1, e2⟩
          · exact .inr ⟨b, by rw [← e]; exact blk_eq rfl rfl, hb⟩
        · rcases hgb' with ⟨e1, e2⟩ | ⟨b, e, hb⟩
          · exact hm7.tr (hm9.mono fun x _ hx => by rw [← hx]; exact (blk_eq e1 e2).symm)
          · exact hm7.fresh hm9 fun x hx => by rw [e] at hx; cases hx; exact hb
      · refine ⟨⟨i' + 1, rfl, by omega, ho9, hs.no hm9, .inr ⟨b, Slc.blk_of rfl (by simp only []; omega), Nat.le_trans hm7.size hb⟩, hm7.no' hm9⟩, by (try simp only []); omega⟩
    · have hi' : i' = 64 := by simp at hge; omega
      subst hi'
      refine ⟨⟨by omega, by simp only []; omega⟩, ?_⟩
      refine hstore k' gl g w6 w7 _ hk' hgl (hkeepR k' _ w6 w7 hk' hgo hm7) fun w8 ho8 hm8 => ?_
      rw [wrap_nat (by omega)]
      have hgrk : Grown w5.heap.size w7 (sl ss k') g (mks k' ((sl ss k').len + 64)) := ⟨hg, hgb'.imp (fun ⟨e1, e2⟩ => blk_eq e1 e2) fun ⟨b, e, hb⟩ => ⟨b, e, by omega⟩⟩
      refine ⟨⟨k' + 1, gl.set k' g, rfl, by omega, by simp [hgl], ho8, fun j hj => ?_, fun j hj => ?_, hUG hM7 hm8, by have := hm8.size; have := hm7.size; omega⟩, by (try simp only []); omega⟩
      · rw [sl_set (by omega)]
        split
        · next e => subst e; exact ⟨hkeepG _ _ _ w7 w8 hk' hgrk hm8, by omega⟩
        · next e =>
          obtain ⟨q1, q2⟩ := hgr j (by omega)
          exact ⟨hkeepG _ _ _ w7 w8 (by omega) (hkeep k' j _ _ w6 w7 hk' (by omega) (by omega) q1 hm7) hm8, q2⟩
      · by_cases e : j = k'
        · subst e; exact hkeepS _ _ w7 w8 hk' hs hm8
        · exact hkeepS _ _ w7 w8 hj ((hso j hj).mod hm7 fun b hb hb' => hd j k' hj hk' e b hb hb') hm8
  have hkN : k' = ss.length := by simp at hge; omega
  subst hkN
  -- loop 3: all is looked at
  refine ⟨fun l' w' => match l' with | [.i _ k] => ∃ k' : Nat, k = k' ∧ k' ≤ ss.length ∧ Mod NoB w6 w' | _ => False, fun l' _ => match l' with | [.i _ k] => (ss.length - k).toNat | _ => 0, ⟨0, rfl, by omega, Mod.refl _ _⟩, ?_⟩
  rintro k w12 ⟨k', rfl, hk, hm12⟩
  refine condK_i (fun hlt => ?_) fun hge => ?_
  · have hk' : k' < ss.length := by simp at hlt; omega
    obtain ⟨la, el⟩ := row_a hls (by omega)
    have hlen := (ho k' hk').2
    obtain ⟨⟨q1, q2⟩, q3⟩ := hgr k' hk'
    refine ⟨fun l' w' => match l' with | [.i _ i] => ∃ i' : Nat, i = i' ∧ i' ≤ (sl ss k').len + 64 ∧ Mod NoB w6 w' | _ => False, fun l' _ => match l' with | [.i _ i] => ((sl ss k').len + 64 - i).toNat | _ => 0, ⟨0, rfl, by omega, hm12⟩, ?_⟩
    rintro i w13 ⟨i', rfl, hi, hm13⟩
    have hrg : ∀ w', Mod NoB w6 w' → Rd w' ((⟨G, 0, none⟩ : Addr).add (k' * 1)) [(sl gl k').val] := fun w' hm => rd_s hgo.rd rfl (by omega) hm
    have hrl : ∀ w', Mod NoB w6 w' → Rd w' (la.add (k' * 1)) [(sl ss k').val] := fun w' hm => rd_s (hlsm w6 hm6) el hk' hm
    refine ⟨⟨by omega, by simp only []; omega⟩, sl gl k', hrg _ hm13, condK_i (fun hlt => ?_) fun hge => ?_⟩
    · have hi' : i' < (sl ss k').len + 64 := by simp at hlt; omega
      obtain ⟨ga, eg⟩ := own_a q1 (by omega)
      refine ⟨fun w' => w' = w13.drew, rfl, ⟨by omega, by simp only []; omega⟩, sl gl k', fun w' e => e ▸ hrg _ hm13.dr, ⟨by omega, by omega⟩, onSome_of eg ⟨mb k' i', fun w' e => e ▸ rd_b q1.rd eg (mks_at k' _ i' hi') hm13.dr, ?_, trivial⟩⟩
      refine callK_ret c_markByte ?_
      rintro v w14 ⟨rfl, rfl⟩
      refine ⟨_, rfl, rfl, condK_i (fun e => by simp at e) fun _ => ?_⟩
      have hnext : (∃ i'' : Nat, IntKind.i64.wrap ((i' : Int) + 1) = i'' ∧ i'' ≤ (sl ss k').len + 64 ∧ Mod NoB w6 w13.drew) ∧ ((sl ss k').len + 64 - IntKind.i64.wrap ((i' : Int) + 1)).toNat < ((sl ss k').len + 64 - (i' : Int)).toNat := by
        rw [wrap_nat (by omega)]; exact ⟨⟨i' + 1, rfl, by omega, hm13.dr⟩, by omega⟩
      refine ⟨⟨by omega, by omega⟩, onSome_of el ⟨sl ss k', fun w' e => e ▸ hrl _ hm13.dr, condK_i (fun hlt => ?_) fun hge => ⟨⟨rfl, hnext⟩, trivial⟩⟩⟩
      have hi2 : i' < (sl ss k').len := by simp at hlt; omega
      obtain ⟨sa, es⟩ := own_a (hso k' hk') (by omega)
      refine ⟨⟨by omega, by omega⟩, onSome_of el ⟨sl ss k', fun w' e => e ▸ hrl _ hm13.dr, ⟨by omega, by omega⟩, onSome_of es ⟨mb k' i', fun w' e => e ▸ rd_b (hso k' hk').rd es (mks_at k' _ i' hi2) hm13.dr, ?_, trivial⟩⟩⟩
      refine callK_ret c_markByte ?_
      rintro v w15 ⟨rfl, rfl⟩
      exact ⟨_, rfl, rfl, condK_i (fun e => by simp at e) fun _ => hnext⟩
    · rw [wrap_nat (by omega)]
      exact ⟨⟨k' + 1, rfl, by omega, hm13⟩, by (try simp only []); omega⟩
  have hkN : k' = ss.length := by simp at hge; omega
  subst hkN
  have hso12 := fun j hj => (hso j hj).no hm12
  have hM12 : Mod (UB ss) w w12 := hm6.no' hm12
  -- loop 4: many at once
  refine ⟨fun l' w' => match l' with | [.i _ k] => ∃ (k' : Nat) (gl : List Slc), k = k' ∧ k' ≤ ss.length ∧ gl.length = ss.length ∧ Sh.Own w' ⟨some ⟨G, 0, none⟩, ls.len, ls.len⟩ 1 (gl.map Slc.val) ∧ (∀ j, j < k' → ∃ l : List UInt8, Grown w5.heap.size w' (sl ss j) (sl gl j) (mks j (sl ss j).len ++ l) ∧ (sl ss j).len ≤ (sl gl j).len) ∧ (∀ j, j < ss.length → Sh.Own w' (sl ss j) 1 (bys (mks j (sl ss j).len))) ∧ Mod (UB ss) w w' ∧ w5.heap.size ≤ w'.heap.size | _ => False,
    fun l' _ => match l' with | [.i _ k] => (ss.length - k).toNat | _ => 0, ⟨0, gl, rfl, by omega, hgl, hgo.no hm12, fun j hj => by omega, hso12, hM12, Nat.le_trans hz6 hm12.size⟩, ?_⟩
  rintro k w16 ⟨k', gl4, rfl, hk, hgl4, hgo4, hgr4, hso4, hm16, hz16⟩
  refine condK_i (fun hlt => ?_) fun hge => ?_
  · have hk' : k' < ss.length := by simp at hlt; omega
    obtain ⟨la, el⟩ := row_a hls (by omega)
    have hlen := (ho k' hk').2
    refine sem_makeSlice (l := 64) (c := 64) u26 h51 h52 h53 rfl h54 rfl rfl (by omega) (by omega) (by omega) fun m w17 hN17 hb17 ho17 => ⟨⟨some ⟨m, 0, none⟩, 64, 64⟩, rfl, ?_⟩
    have hat17 := hN17.at_
    have hmb : ∀ x, Slc.blk ⟨some ⟨m, 0, none⟩, 64, 64⟩ = some x → x = m := fun x hx => by rw [Slc.blk_mk] at hx; simp at hx; omega
    refine ⟨fun l' w' => match l' with | [.i _ i] => ∃ (i' : Nat) (l : List UInt8), i = i' ∧ i' ≤ 64 ∧ l.length = 64 ∧ Sh.Own w' ⟨some ⟨m, 0, none⟩, 64, 64⟩ 1 (bys l) ∧ Mod NoB w16 w' | _ => False, fun l' _ => match l' with | [.i _ i] => (64 - i).toNat | _ => 0,
      ⟨0, List.replicate 64 0, rfl, by omega, by simp, by rw [← bys_rep]; exact ho17, hN17.mod⟩, ?_⟩
    rintro i w18 ⟨i', l, rfl, hi, hll, hlo, hm18⟩
    refine condK_i (fun hlt => ?_) fun hge => ?_
    · have hi' : i' < 64 := by simp at hlt; omega
      refine callK_ret c_markByte ?_
      rintro v w19 ⟨rfl, rfl⟩
      refine ⟨_, rfl, ⟨by omega, by simp only []; omega⟩, ?_⟩
      refine semU_own1 (s := ⟨some ⟨m, 0, none⟩, 64, 64⟩) (i := i') (by kernel_rfl) (by kernel_rfl) rfl hlo rfl hi' fun w20 ho20 hm20 hs20 => ?_
      rw [wrap_nat (by omega)]
      rw [bys_set] at ho20
      exact ⟨⟨i' + 1, _, rfl, by omega, by simp [hll], ho20, hm18.fresh hm20 fun x hx => by have := hmb x hx; omega⟩, by (try simp only []); omega⟩
    · refine ⟨⟨by omega, by omega⟩, onSome_of el ⟨sl ss k', rd_s (hlsm w18 (hm16.no' hm18)) el hk' (Mod.refl _ _), ?_⟩⟩
      have hs18 := (hso4 k' hk').no hm18
      have fin : ∀ (g : Slc) (w21 : World), Sh.Own w21 g 1 (bys (mks k' (sl ss k').len ++ l)) → Sh.Own w21 (sl ss k') 1 (bys (mks k' (sl ss k').len)) → (g.blk = (sl ss k').blk ∨ ∃ b, g.blk = some b ∧ w5.heap.size ≤ b) → Mod (fun x => (sl ss k').blk = some x) w16 w21 →
          semU Tryz.prog (storeVar 22 ((⟨G, 0, none⟩ : Addr).add (k' * 1)) (.slice g.a g.len g.cap)) w21 fun w22 => (∃ (k'' : Nat) (gl : List Slc), IntKind.i64.wrap ((k' : Int) + 1) = k'' ∧ k'' ≤ ss.length ∧ gl.length = ss.length ∧ Sh.Own w22 ⟨some ⟨G, 0, none⟩, ls.len, ls.len⟩ 1 (gl.map Slc.val) ∧ (∀ j, j < k'' → ∃ l : List UInt8, Grown w5.heap.size w22 (sl ss j) (sl gl j) (mks j (sl ss j).len ++ l) ∧ (sl ss j).len ≤ (sl gl j).len) ∧ (∀ j, j < ss.length → Sh.Own w22 (sl ss j) 1 (bys (mks j (sl ss j).len))) ∧ Mod (UB ss) w w22 ∧ w5.heap.size ≤ w22.heap.size) ∧ ((ss.length : Int) - IntKind.i64.wrap ((k' : Int) + 1)).toNat < ((ss.length : Int) - (k' : Int)).toNat := by
        intro g w21 hg hs hgb' hm21
        have hgl' := rd_len8 hg.rd
        simp at hgl'
        refine hstore k' gl4 g w16 w21 _ hk' hgl4 (hkeepR k' _ w16 w21 hk' hgo4 hm21) fun w22 ho22 hm22 => ?_
        rw [wrap_nat (by omega)]
        refine ⟨⟨k' + 1, gl4.set k' g, rfl, by omega, by simp [hgl4], ho22, fun j hj => ?_, fun j hj => ?_, hUG (hUk k' hk' hm16 hm21) hm22, by have := hm21.size; have := hm22.size; omega⟩, by omega⟩
        · rw [sl_set (by omega)]
          split
          · next e => subst e; exact ⟨l, hkeepG _ _ _ w21 w22 hk' ⟨hg, hgb'⟩ hm22, by omega⟩
          · next e =>
            obtain ⟨l', q1, q2⟩ := hgr4 j (by omega)
            exact ⟨l', hkeepG _ _ _ w21 w22 (by omega) (hkeep k' j _ _ w16 w21 hk' (by omega) (by omega) q1 hm21) hm22, q2⟩
        · by_cases e : j = k'
          · subst e; exact hkeepS _ _ w21 w22 hk' hs hm22
          · exact hkeepS _ _ w21 w22 hj ((hso4 j hj).mod hm21 fun b hb hb' => hd j k' hj hk' e b hb hb') hm22
      refine sem_append2 (x := ⟨some ⟨m, 0, none⟩, 64, 64⟩) u26 h51 h52 h53 rfl h54 hs18 hlo.rd (bys_one _) (by simp only []; omega) (by simp only []; omega) (fun _ w21 ho21 hm21 _ => ⟨⟨(sl ss k').a, (sl ss k').len + 64, (sl ss k').cap⟩, rfl, ⟨by omega, by simp only []; omega⟩, ?_⟩) fun hc cp w21 ho21 hcp hm21 _ => ⟨⟨some ⟨w18.heap.size, 0, none⟩, (sl ss k').len + 64, cp⟩, rfl, ⟨by omega, by simp only []; omega⟩, ?_⟩
      · rw [← bys_app] at ho21
        refine fin ⟨(sl ss k').a, (sl ss k').len + 64, (sl ss k').cap⟩ w21 ho21 ?_ (.inl (blk_eq rfl rfl)) (hm18.no hm21)
        have := ho21.take (n := (sl ss k').len) (by simp only []; omega)
        rw [Nat.mul_one, bys_take, List.take_append_of_le_length (by simp), List.take_of_length_le (by simp)] at this
        exact this
      · rw [← bys_app] at ho21
        exact fin _ w21 ho21 (hs18.no hm21) (.inr ⟨_, Slc.blk_of rfl (by simp only []; omega), Nat.le_trans hz16 hm18.size⟩) ((hm18.tr hm21).mono fun _ _ h => h.elim)
  have hkN : k' = ss.length := by simp at hge; omega
  subst hkN
  -- loop 5: all is looked at again
  refine ⟨fun l' w' => match l' with | [.i _ k] => ∃ k' : Nat, k = k' ∧ k' ≤ ss.length ∧ Mod NoB w16 w' | _ => False, fun l' _ => match l' with | [.i _ k] => (ss.length - k).toNat | _ => 0, ⟨0, rfl, by omega, Mod.refl _ _⟩, ?_⟩
  rintro k w23 ⟨k', rfl, hk, hm23⟩
  refine condK_i (fun hlt => ?_) fun hge => ⟨rfl, hm16.no' hm23⟩
  have hk' : k' < ss.length := by simp at hlt; omega
  obtain ⟨la, el⟩ := row_a hls (by omega)
  have hlen := (ho k' hk').2
  obtain ⟨l, ⟨q1, q2⟩, q3⟩ := hgr4 k' hk'
  refine ⟨fun l' w' => match l' with | [.i _ i] => ∃ i' : Nat, i = i' ∧ i' ≤ (sl ss k').len ∧ Mod NoB w16 w' | _ => False, fun l' _ => match l' with | [.i _ i] => ((sl ss k').len - i).toNat | _ => 0, ⟨0, rfl, by omega, hm23⟩, ?_⟩
  rintro i w24 ⟨i', rfl, hi, hm24⟩
  have hrg : ∀ w', Mod NoB w16 w' → Rd w' ((⟨G, 0, none⟩ : Addr).add (k' * 1)) [(sl gl4 k').val] := fun w' hm => rd_s hgo4.rd rfl (by omega) hm
  have hrl : ∀ w', Mod NoB w16 w' → Rd w' (la.add (k' * 1)) [(sl ss k').val] := fun w' hm => rd_s (hlsm w16 hm16) el hk' hm
  refine ⟨⟨by omega, by omega⟩, onSome_of el ⟨sl ss k', hrl _ hm24, condK_i (fun hlt => ?_) fun hge => ?_⟩⟩
  · have hi' : i' < (sl ss k').len := by simp at hlt; omega
    obtain ⟨sa, es⟩ := own_a (hso4 k' hk') (by omega)
    obtain ⟨ga, eg⟩ := own_a q1 (by omega)
    refine ⟨fun w' => w' = w24.drew, rfl, ⟨by omega, by omega⟩, onSome_of el ⟨sl ss k', fun w' e => e ▸ hrl _ hm24.dr, ⟨by omega, by omega⟩, onSome_of es ⟨mb k' i', fun w' e => e ▸ rd_b (hso4 k' hk').rd es (mks_at k' _ i' hi') hm24.dr, ?_, trivial⟩⟩⟩
    refine callK_ret c_markByte ?_
    rintro v w25 ⟨rfl, rfl⟩
    refine ⟨_, rfl, rfl, condK_i (fun e => by simp at e) fun _ => ⟨⟨by omega, by simp only []; omega⟩, sl gl4 k', fun w' e => e ▸ hrg _ hm24.dr, ⟨by omega, by omega⟩, onSome_of eg ⟨mb k' i', fun w' e => e ▸ rd_b q1.rd eg (by rw [List.getElem?_append_left (by simpa using hi')]; exact mks_at k' _ i' hi') hm24.dr, ?_, trivial⟩⟩⟩
    refine callK_ret c_markByte ?_
    rintro v w26 ⟨rfl, rfl⟩
    refine ⟨_, rfl, rfl, condK_i (fun e => by simp at e) fun _ => ?_⟩
    rw [wrap_nat (by omega)]
    exact ⟨⟨i' + 1, rfl, by omega, hm24.dr⟩, by (try simp only []); omega⟩
  · rw [wrap_nat (by omega)]
    exact ⟨⟨k' + 1, rfl, by omega, hm24⟩, by (try simp only []); omega⟩
end Go.Proofs.YtknbihogadcnpaaGreat
