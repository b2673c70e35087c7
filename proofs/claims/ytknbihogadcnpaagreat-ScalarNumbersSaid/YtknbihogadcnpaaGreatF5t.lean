/- The kit's Apart for lists of truths. -/
import Derived.Test.YtknbihogadcnpaaGreatF4t
import Derived.Test.YtknbihogadcnpaaGreatF5
set_option linter.unusedSimpArgs false
set_option linter.unusedVariables false
set_option maxRecDepth 100000
namespace Go.Proofs.YtknbihogadcnpaaGreat
open Go Go.Sh

theorem noneBytes : FlatNone 47 := fun w =>
  (c_flatBytes (ls := ⟨none, 0, 0⟩) (ss := []) (rd_nil w 1) (fun k hk => by simp at hk) (fun k hk => by simp at hk) (fun i j hi => by simp at hi) (by simp)).mono fun e w' h => by
    cases e with
    | returned v => exact ⟨h.1, h.2.mono fun x _ ⟨k, hk, _⟩ => by simp at hk⟩
    | panicked c => exact h.elim
    | outgrown => exact h.elim
theorem sem_rowsT {K : Value → World → Prop} {w : World} (l : List Slc) {n : Nat} {ps : Array (Nat × Value)} (hps : ps.toList = ((l.map Slc.val).zipIdx 0).map fun x => (x.2, x.1)) (hn : n = l.length) (h0 : 0 < n) (hs : n ≤ 10000)
    (hK : ∀ (x : Slc) b w', New w w' b (.cells (l.map Slc.val).toArray 25) → x = ⟨some ⟨b, 0, none⟩, n, n⟩ → Blk w' b (l.map Slc.val) 25 → Sh.Own w' x 1 (l.map Slc.val) → K x.val w') : semK Tryz.prog (Instr.buildSlice 33 n ps) w K := by
  obtain ⟨i5', h51, h52, h53, h54⟩ := iBools
  refine sem_lit (l := l.map Slc.val) (l.map Slc.val) uBoolss h51 h52 h53 (by decide) (by simpa using hn) h0 (by omega) hps (fun v hv => ?_) ?_ fun b w' hN hb => hK _ b w' hN rfl hb (own_whole hb (by simp [hn]))
  · obtain ⟨y, _, rfl⟩ := List.mem_map.1 hv; rfl
  · have : ∀ l : List Slc, (l.map Slc.val).flatMap (fun v => v.cells.toList) = l.map Slc.val := by
      intro l
      induction l with
      | nil => rfl
      | cons a l ih => simp only [List.map_cons, List.flatMap_cons] at ih ⊢; rw [ih]; rfl
    exact this l
/-- the bag's cells: one list of lists of bytes -/
def bagT (x : Slc) : List Value := List.replicate 6 (.slice none 0 0) ++ x.val :: List.replicate 17 (.slice none 0 0)
theorem bagT_at (x : Slc) : (bagT x)[6]? = some x.val := rfl
theorem c_apartT {w : World} {B : Nat} {x : Slc} {T : TypeId} {ss : List Slc} (hB : Blk w B (bagT x) T) (hx : SlRd w x 1 (ss.map Slc.val)) (hlb : ∀ k, k < ss.length → ∀ y, (sl ss k).blk = some y → x.blk ≠ some y) (hBU : ¬ UB ss B)
    (ho : ∀ k, k < ss.length → (∃ vs, Sh.Own w (sl ss k) 1 vs) ∧ (sl ss k).len ≤ 1000000000) (hd : ∀ i j, i < ss.length → j < ss.length → i ≠ j → ∀ x, (sl ss i).blk = some x → (sl ss j).blk ≠ some x) (hn : ss.length ≤ 1000000) :
    Calls Tryz.prog 32 #[.pointer (some ⟨B, 0, none⟩)] w (Ret fun v w' => v = .bool true ∧ Mod (UB ss) w w') := by
  refine call32 _ ?_
  unfold sh32
  refine step_flat hB rfl noneLimbs fun w1 b1 g1 => ?_
  have m1 : Mod NoB w w1 := g1
  refine step_flat b1 rfl noneWords fun w2 b2 g2 => ?_
  have m2 := m1.tr g2
  refine step_flat b2 rfl noneInts fun w3 b3 g3 => ?_
  have m3 := m2.tr g3
  refine step_flat b3 rfl noneLongs fun w4 b4 g4 => ?_
  have m4 := m3.tr g4
  refine step_flat b4 rfl noneTexts fun w5 b5 g5 => ?_
  have m5 := m4.tr g5
  refine step_flat b5 rfl noneBytes fun w6 b6 g6 => ?_
  have m6 := m5.tr g6
  refine ⟨x, by rw [addl, Nat.zero_add]; exact b6.rd1 (bagT_at x), callK_ret (c_flatTruths (hx.no m6) hlb (fun k hk => ⟨(ho k hk).1.imp fun vs h => h.no m6, (ho k hk).2⟩) hd hn) ?_⟩
  rintro v w7 ⟨rfl, g7⟩
  refine ⟨true, rfl, condK_i (fun _ => ?_) fun e => by cases e⟩
  have b7 := b6.mod g7 hBU
  have m7 : Mod (UB ss) w w7 := m6.no g7
  refine step_flat b7 rfl noneRows fun w8 b8 g8 => ?_
  have m8 := m7.no' g8
  refine step_flat b8 rfl noneDots fun w9 b9 g9 => ?_
  have m9 := m8.no' g9
  refine step_flat b9 rfl noneRecords fun w10 b10 g10 => ?_
  have m10 := m9.no' g10
  refine step_flat b10 rfl noneLeaves fun w11 b11 g11 => ?_
  have m11 := m10.no' g11
  refine step_flat b11 rfl noneGrants fun w12 b12 g12 => ?_
  have m12 := m11.no' g12
  refine step_flat b12 rfl noneNodes fun w13 b13 g13 => ?_
  have m13 := m12.no' g13
  refine step_flat b13 rfl noneStubs fun w14 b14 g14 => ?_
  have m14 := m13.no' g14
  refine step_flat b14 rfl noneProofs fun w15 b15 g15 => ?_
  have m15 := m14.no' g15
  refine step_flat b15 rfl noneRoots fun w16 b16 g16 => ?_
  have m16 := m15.no' g16
  refine step_flat b16 rfl noneEvidenceRow fun w17 b17 g17 => ?_
  have m17 := m16.no' g17
  refine step_flat b17 rfl noneFrames fun w18 b18 g18 => ?_
  have m18 := m17.no' g18
  refine step_flat b18 rfl nonePackets fun w19 b19 g19 => ?_
  have m19 := m18.no' g19
  refine step_flat b19 rfl noneEntries fun w20 b20 g20 => ?_
  have m20 := m19.no' g20
  refine step_flat b20 rfl noneHeldRow fun w21 b21 g21 => ?_
  have m21 := m20.no' g21
  refine step_flat b21 rfl noneConfigs fun w22 b22 g22 => ?_
  have m22 := m21.no' g22
  refine step_flat b22 rfl noneSteps fun w23 b23 g23 => ?_
  have m23 := m22.no' g23
  exact step_flatEnd b23 rfl noneTales fun w24 g24 => ⟨rfl, m23.no' g24⟩

theorem c_putTruths {w : World} {B : Nat} {x s : Slc} {T : TypeId} {vs : List Slc} (hB : Blk w B (bagT x) T) (hx : Sh.Own w x 1 (vs.map Slc.val)) (hxB : x.blk ≠ some B) (hn : vs.length ≤ 1000000) :
    Calls Tryz.prog 33 #[.pointer (some ⟨B, 0, none⟩), .slice s.a s.len s.cap] w (Ret fun v w' => v = .tuple #[] ∧ ∃ x' : Slc, Blk w' B (bagT x') T ∧ Sh.Own w' x' 1 ((vs ++ [s]).map Slc.val) ∧ (x'.blk = x.blk ∨ ∃ y, x'.blk = some y ∧ w.heap.size ≤ y) ∧ Mod (fun y => y = B ∨ x.blk = some y) w w') := by
  refine call33 _ _ ?_
  unfold sh33
  obtain ⟨i26', h1, h2, h3, h4⟩ := iBools
  have hxl : vs.length = x.len := by have := hx.1; simp at this; omega
  refine ⟨x, by rw [addl, Nat.zero_add]; exact hB.rd1 (bagT_at x), ?_⟩
  refine sem_rowsT [s] rfl rfl (by omega) (by omega) fun y e w1 hN hy hb hoy => ⟨y, rfl, ?_⟩
  have hyl : y.len = 1 := by subst hy; rfl
  have hBl := hB.lt
  refine sem_append uBoolss h1 h2 h3 rfl h4 (hx.no hN.mod) hoy.rd (fun v hv => by obtain ⟨z, _, rfl⟩ := List.mem_map.1 hv; rfl) (by omega) (by omega) fun x' w2 ho2 hl2 hb2 hm2 => ⟨x', rfl, ?_⟩
  have hB2 := (hB.no hN.mod).mod hm2 hxB
  have hB2 : Blk w2 B (bagT x) T := hB2
  have hx'B : ∀ b, x'.blk = some b → ¬ b = B := fun b hb' e => by
    subst e
    rcases hb2 with h | h
    · exact hxB (by rw [← h]; exact hb')
    · rw [h] at hb'; cases hb'; have := hN.mod.size; omega
  show semU Tryz.prog (storeVar 33 ((⟨B, 0, none⟩ : Addr).add 6) _) w2 _
  rw [addl, Nat.zero_add]
  refine semU_store1 (b := B) (o := 6) (by kernel_rfl) (by kernel_rfl) rfl hB2 (by simp [bagT]) fun w3 ht3 hB3 => ?_
  refine ⟨rfl, x', ?_, ?_, ?_, ?_⟩
  · exact hB3
  · rw [List.map_append]
    exact ho2.mod ht3.mod hx'B
  · rcases hb2 with h | h
    · exact .inl h
    · exact .inr ⟨_, h, hN.mod.size⟩
  · exact (hN.mod.no (hm2.mono fun z _ hz => .inr hz)).tr (ht3.mod.mono fun z _ hz => .inl hz)

theorem c_apartTruths {w : World} {ls : Slc} {ss : List Slc} (hls : SlRd w ls 1 (ss.map Slc.val))
    (ho : ∀ k, k < ss.length → (∃ vs, Sh.Own w (sl ss k) 1 vs) ∧ (sl ss k).len ≤ 1000000000) (hd : ∀ i j, i < ss.length → j < ss.length → i ≠ j → ∀ x, (sl ss i).blk = some x → (sl ss j).blk ≠ some x) (hn : ss.length ≤ 1000000) :
    Calls Tryz.prog 18 #[.slice ls.a ls.len ls.cap] w (Ret fun v w' => v = .bool true ∧ Mod (UB ss) w w') := by
  refine call18 _ ?_
  unfold sh18
  have hN : ss.length = ls.len := by have := hls.1; simp at this; omega
  have hub : ∀ k, k < ss.length → ∀ x, (sl ss k).blk = some x → x < w.heap.size := fun k hk x hx => by obtain ⟨⟨vs, h⟩, _⟩ := ho k hk; exact h.lt hx
  refine sem_box (l := bagT ⟨none, 0, 0⟩) rfl fun B w1 hN1 hB1 => ⟨_, rfl, ?_⟩
  have hat := hN1.at_; have hsz := hN1.size
  refine ⟨fun l' w' => match l' with | [.i _ k] => ∃ (k' : Nat) (x : Slc), k = k' ∧ k' ≤ ss.length ∧ Blk w' B (bagT x) _ ∧ Sh.Own w' x 1 ((ss.take k').map Slc.val) ∧ (∀ y, x.blk = some y → w1.heap.size ≤ y) ∧ Mod NoB w w' ∧ w1.heap.size ≤ w'.heap.size | _ => False,
    fun l' _ => match l' with | [.i _ k] => (ss.length - k).toNat | _ => 0, ⟨0, ⟨none, 0, 0⟩, rfl, by omega, hB1, own_nil _ _, fun y hy => by simp at hy, hN1.mod, Nat.le_refl _⟩, ?_⟩
  rintro k w2 ⟨k', x, rfl, hk, hB2, hx2, hf2, hm2, hz2⟩
  have hxB : x.blk ≠ some B := fun e => by have := hf2 B e; omega
  refine condK_i (fun hlt => ?_) fun hge => ?_
  · have hk' : k' < ss.length := by simp at hlt; omega
    obtain ⟨la, el⟩ := row_a hls (by omega)
    refine ⟨⟨by omega, by omega⟩, onSome_of el ⟨sl ss k', rd_s hls el hk' hm2, ?_⟩⟩
    refine callK_ret (c_putTruths (s := sl ss k') hB2 hx2 hxB (by rw [List.length_take]; omega)) ?_
    rintro v w3 ⟨rfl, x', hB3, hx3, hb3, hm3⟩
    rw [wrap_nat (by omega)]
    refine ⟨rfl, ⟨k' + 1, x', rfl, by omega, hB3, ?_, fun y hy => ?_, hm2.fresh hm3 fun y hy => hy.elim (fun e => by omega) fun e => by have := hf2 y e; omega, Nat.le_trans hz2 hm3.size⟩, by (try simp only []); omega⟩
    · rw [List.take_succ_eq_append_getElem hk', ← sl_eq hk']; exact hx3
    · rcases hb3 with h | ⟨z, h, hz⟩
      · exact hf2 y (by rw [← h]; exact hy)
      · rw [h] at hy; cases hy; omega
  · have hk' : k' = ss.length := by simp at hge; omega
    subst hk'
    rw [List.take_length] at hx2
    refine callK_ret (c_apartT hB2 hx2.rd (fun k hk y hy hy' => by have := hub k hk y hy; have := hf2 y hy'; omega) (fun ⟨k, hk, e⟩ => by have := hub k hk _ e; omega) (fun k hk => ⟨(ho k hk).1.imp fun vs h => h.no hm2, (ho k hk).2⟩) hd hn) ?_
    rintro v w3 ⟨rfl, hm3⟩
    exact ⟨true, rfl, rfl, hm2.no hm3⟩
end Go.Proofs.YtknbihogadcnpaaGreat
