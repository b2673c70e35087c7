/- The forms of the translated functions, their contracts and the plain laws behind them, put together by a program. -/
import Derived.Test.YtdjmobighhfogaaGreatDoorPN16
import Derived.Lib.Overlaps
import Derived.Test.YtdjmobighhfogaaGreatDoorProg
set_option linter.unusedSimpArgs false
set_option linter.unusedVariables false
set_option maxRecDepth 1000000
set_option maxHeartbeats 8000000
section
namespace Go.Proofs.YtdjmobighhfogaaGreatDoor
open Go Go.Sh
section
variable {w : World}
def lens (l : List (List UInt8)) : Nat := (l.map List.length).sum
theorem lens_take {l : List (List UInt8)} {k : Nat} (h : k < l.length) : lens (l.take (k + 1)) = lens (l.take k) + l[k].length := by
  unfold lens
  rw [take_snoc h, List.map_append, List.sum_append]
  simp only [List.map_cons, List.map_nil, List.sum_cons, List.sum_nil, Nat.add_zero]
theorem lens_flat (l : List (List UInt8)) : l.flatten.length = lens l := by simp [lens, List.length_flatten]
theorem lens_le {l : List (List UInt8)} (k : Nat) : lens (l.take k) ≤ lens l := by
  have := lens_flat (l.take k); have h2 := lens_flat l
  have : l.flatten = (l.take k).flatten ++ (l.drop k).flatten := by rw [← List.flatten_append, List.take_append_drop]
  have := congrArg List.length this
  rw [List.length_append] at this
  omega
end
section
variable {P : Program} {w : World} {K : Value → World → Prop}
theorem sem_copyT {t t2 ty e : TypeId} {i : TypeInfo} (ht : P.underlying t = some (.slice e)) (hi : P.info? e = some i) {k : Nat} (hk : i.size = k)
    {d x : Slc} {b o : Nat} {l ys : List Value} {T : TypeId} (hd : d.a = some ⟨b, o, none⟩) (hb : Blk w b l T) (hfit : o + d.len * k ≤ l.length) (hx : SlRd w x k ys) (h1 : ∀ y ∈ ys.take (min x.len d.len * k), y.oneCell' = true)
    (hK : ∀ w', Blk w' b (putAt l o (ys.take (min x.len d.len * k))) T → Mod (fun y => y = b) w w' → w'.heap.size = w.heap.size → K (.int .i64 (min x.len d.len : Nat)) w') :
    semK P (Builtin.copy_ #[t, t2] ty #[.slice d.a d.len d.cap, .slice x.a x.len x.cap]) w K := by
  subst hk
  have hxl := hx.1
  have hfx := run_firstCells (P := P) (s := ⟨x.a, min x.len d.len, x.cap⟩) (w := w) (k := i.size) (vs := ys.take (min x.len d.len * i.size)) (by
    refine ⟨?_, by have := hx.2.1; simp only []; omega, ?_⟩
    · rw [List.length_take, hxl]
      exact Nat.min_eq_left (Nat.mul_le_mul_right _ (Nat.min_le_left _ _))
    · rcases hx.2.2 with h | ⟨a', e1, e2⟩
      · left; simp [h]
      · exact .inr ⟨a', e1, fun j v hj => e2 j v (by rw [List.getElem?_take] at hj; split at hj <;> simp_all)⟩)
  have hlt : (ys.take (min x.len d.len * i.size)).length = min x.len d.len * i.size := by
    rw [List.length_take, hxl]
    exact Nat.min_eq_left (Nat.mul_le_mul_right _ (Nat.min_le_left _ _))
  have hle : min x.len d.len * i.size ≤ d.len * i.size := Nat.mul_le_mul_right _ (Nat.min_le_right _ _)
  obtain ⟨w', hst, hb', ht'⟩ := store_blk (P := P) (o := o) (vs := ys.take (min x.len d.len * i.size)) hb (by rw [hlt]; omega) h1
  refine ⟨_, _, ?_, hK _ hb' ht'.mod ht'.size⟩
  have hg : ∀ w, (Builtin.lenOf (.slice x.a x.len x.cap)).run P w = .ok x.len w := fun w => by simp [Builtin.lenOf]
  have hfx' : (Builtin.firstCells i.size (min x.len d.len) (.slice x.a x.len x.cap)).run P w = .ok (ys.take (min x.len d.len * i.size)).toArray w := by
    rw [← hfx]; cases x.a <;> simp [Builtin.firstCells]
  unfold Builtin.copy_
  simp only [List.getElem?_toArray, List.getElem?_cons_zero, List.getElem?_cons_succ, run_underlying ht, Sem.run_bind, Sem.run_pure, Result.andThen_ok, hg, Go.Sh.run_sizeOf hi, goInt, show Nat.min x.len d.len = min x.len d.len from rfl, hfx', hd, hst]
theorem sem_append_zerosN {t t2 ty e : TypeId} {k2 : IntKind} {i : TypeInfo} {z : Value} (ht : P.underlying t = some (.slice e)) (ht2 : P.underlying t2 = some (.int k2)) (hi : P.info? e = some i) (hz : i.zero = some z) (hk : i.size = 1) (hzc : z.cells = #[z]) {bytes : Nat} (hby : i.bytes = bytes)
    {s : Slc} {vs : List Value} {n : Nat} {xn : Int} {kn : IntKind} (hxn : xn = n) (hs : Sh.Own w s 1 vs) (hb : (s.len + n) * bytes ≤ 140737488355328) (hm : s.len + n ≤ 9223372036854775807) (hcap : s.cap < s.len + n)
    (hK : ∀ (c : Nat) (w' : World), Sh.Own w' ⟨some ⟨w.heap.size, 0, none⟩, s.len + n, c⟩ 1 (vs ++ List.replicate n z) → Mod NoB w w' → K (.slice (some ⟨w.heap.size, 0, none⟩) (s.len + n) c) w') :
    semK P (Builtin.append_ #[t, t2] ty #[.slice s.a s.len s.cap, .int kn xn]) w K := by
  subst hby hxn
  have hsl := hs.1
  have hw : IntKind.i64.wrap (n : Int) = n := wrap_i64 (by omega)
  have hn0 : ¬ ((n : Int) < 0) := by omega
  have hbig : ¬ ((281474976710656 : Int) < (n : Int) * i.bytes) := by
    have : ((n : Int) * i.bytes) = ((n * i.bytes : Nat) : Int) := by simp
    rw [this]
    have h2 : n * i.bytes ≤ (s.len + n) * i.bytes := Nat.mul_le_mul_right _ (by omega)
    omega
  have h0 : n ≠ 0 := by have := hs.2.1; omega
  have hm' : ¬ ((9223372036854775807 : Int) < (s.len : Int) + n) := by omega
  have h48 : ¬ (281474976710656 < Builtin.nextslicecap (s.len + n) s.cap * i.bytes) := by
    have := growslice_fits hcap hb; omega
  have hfs' := run_firstCells (P := P) (w := w.drew) (hs.rd).drew
  have hn : ¬ (s.len + n ≤ s.cap) := by omega
  have hge := grownCap_ge w (s.len + n) s.cap e
  have hrun : (Builtin.append_ #[t, t2] ty #[.slice s.a s.len s.cap, .int kn (n : Int)]).run P w = .ok (.slice (some ⟨w.heap.size, 0, none⟩) (s.len + n) (grownCap w (s.len + n) s.cap e)) (w.drew.alloc (.cells (vs.toArray ++ (List.replicate n z).toArray ++ Builtin.zeroCells z.cells (grownCap w (s.len + n) s.cap e - (s.len + n))) e)) := by
    simp [Builtin.append_, run_underlying ht, run_underlying ht2, sizeOf, typeInfo, zeroValue, hi, hz, asInt, asIntOf, hw, hn0, hbig, h0, hn, hm', h48, Question.forced, newRow, grownCap, hk, hzc, zc1]
    rw [hfs']
    simp only [Result.andThen_ok]
    rfl
  have hn' := new_alloc_drew w (.cells (vs.toArray ++ (List.replicate n z).toArray ++ Builtin.zeroCells z.cells (grownCap w (s.len + n) s.cap e - (s.len + n))) e)
  have hblk : Blk (w.drew.alloc (.cells (vs.toArray ++ (List.replicate n z).toArray ++ Builtin.zeroCells z.cells (grownCap w (s.len + n) s.cap e - (s.len + n))) e)) w.heap.size (vs ++ List.replicate n z ++ (Builtin.zeroCells z.cells (grownCap w (s.len + n) s.cap e - (s.len + n))).toList) e := by
    refine Blk.mk ?_
    rw [hn'.get]
    congr 2
    apply Array.ext'
    simp [List.append_assoc]
  refine ⟨_, _, hrun, hK (grownCap w (s.len + n) s.cap e) _ ⟨by simp [hsl], hge, .inr ⟨w.heap.size, 0, _, e, rfl, hblk, by simp [hsl, hzc, zc1]; omega, ?_⟩⟩ hn'.mod⟩
  simp only [List.drop_zero]
  rw [List.take_append_of_le_length (by simp [hsl]), List.take_of_length_le (by simp [hsl])]
end
def vals (l : List Slc) : List Value := l.map Slc.val
theorem vals_one (l : List Slc) : ∀ y ∈ vals l, y.oneCell' = true := by
  intro y hy
  obtain ⟨x, _, rfl⟩ := List.mem_map.1 hy
  rfl
section
variable {w : World}
theorem c_cloneR {s : Slc} {ss : List Slc} (hs : SlRd w s 1 (vals ss)) (hn : ss.length ≤ 1000000000) :
    Calls Tryz.prog 21 #[.slice s.a s.len s.cap] w (Ret fun v w' => ∃ s', v = s'.val ∧ Sh.Own w' s' 1 (vals ss) ∧ FB w s' ∧ Mod NoB w w') := by
  obtain ⟨i', h1, h2, h3, h4⟩ := i26
  have hl : ss.length = s.len := by have := hs.1; simpa [vals] using this
  refine call21 _ ?_
  unfold sh21
  refine ps_eql_slc (e := 22) u22 ⟨_, rfl, condK_i (fun h => ?_) (fun h => ?_)⟩
  · have : ss = [] := by
      rcases hs.2.2 with h0 | ⟨b, e1, _⟩
      · simpa [vals] using h0
      · rw [e1] at h; simp at h
    subst this
    exact ⟨⟨none, 0, 0⟩, rfl, own_nil _ _, FB.nil _, Mod.refl _ _⟩
  · refine sem_lit0 u22 h1 fun b w1 hN => ⟨⟨some ⟨b, 0, none⟩, 0, 0⟩, rfl, ?_⟩
    refine sem_append (s := ⟨some ⟨b, 0, none⟩, 0, 0⟩) u22 h1 h2 h3 rfl h4 (own_zero _ _ _) (hs.no hN.mod) (vals_one _) (by simp only []; omega) (by simp only []; omega) fun s' w2 ho hlen hblk hm => ⟨s', rfl, s', rfl, by simpa using ho, ?_, ?_⟩
    · intro z hz
      rcases hblk with h | h
      · rw [h] at hz; simp at hz
      · rw [h] at hz; cases hz; exact hN.mod.size
    · exact hN.mod.fresh hm fun x e => by simp at e
theorem run_overl {v0 : Value} {vb blk o n c m d : Nat} {T T' : TypeId} {l : List Value} {fz : Nat × Nat} (hv : w.heap[vb]? = some (.cells #[v0] T (0, 0))) (hs : w.heap[blk]? = some (.cells l.toArray T' fz)) (hl : l.length ≠ 0) (hne : vb ≠ blk) :
    (callFunc 240 #[.slice (some ⟨vb, 0, none⟩) n c, .slice (some ⟨blk, o, none⟩) m d]).run Tryz.prog w = .ok (.value (.bool false)) w := by
  obtain ⟨i', h1, h2, h3, h4⟩ := i26
  rw [run_callFunc_extern Tryz.func240 (by kernel_rfl) (by kernel_rfl) (by kernel_rfl) (e := Extern.SlicesOverlaps.overlaps #[23, 23] #[4]) (by kernel_rfl),
    Lib.run_overlaps_apart w _ _ 22 u22 1 (fun w => by rw [Go.Sh.run_sizeOf h1, h3]) ⟨vb, 0, none⟩ ⟨blk, o, none⟩ n c m d hne T T' 1 l.length (by simp [World.shape?, hv]) (by simp [World.shape?, hs]) hl (by simp [World.frozen?, hv]) (by simp [World.frozen?, hv])]
  rfl
theorem vals_len (l : List Slc) : (vals l).length = l.length := by simp [vals]
theorem c_ins0 {s : Slc} {ss : List Slc} {y : Slc} {vb : Nat} {T : TypeId} (ho : Sh.Own w s 1 (vals ss)) (hv : w.heap[vb]? = some (.cells #[y.val] T (0, 0))) (hvs : ∀ z, s.blk = some z → z ≠ vb) (hn : ss.length ≤ 100000000) :
    Calls Tryz.prog 150 #[.slice s.a s.len s.cap, .int .i64 0, .slice (some ⟨vb, 0, none⟩) 1 1] w (Ret fun v w' => ∃ x : Slc, v = x.val ∧ Sh.Own w' x 1 (vals (y :: ss)) ∧ (x.blk = s.blk ∨ ∃ z, x.blk = some z ∧ w.heap.size ≤ z) ∧ Mod (fun z => s.blk = some z) w w') := by
  refine call150 _ _ ⟨some ⟨vb, 0, none⟩, 1, 1⟩ ?_
  unfold sh150 insF
  obtain ⟨i', h1, h2, h3, h4⟩ := i26
  have hsl : s.len = ss.length := by have := ho.1; rw [vals_len] at this; omega
  have hvB : Blk w vb [y.val] T := ⟨(0, 0), hv, .inl rfl⟩
  have hvR : SlRd w ⟨some ⟨vb, 0, none⟩, 1, 1⟩ 1 [y.val] := (own_whole (n := 1) (k := 1) hvB rfl).rd
  have y1 : ∀ u ∈ [y.val], u.oneCell' = true := vals_one [y]
  refine ⟨⟨by omega, by omega⟩, condK_i (fun h => by simp at h) fun _ => condK_i (fun h => ?_) fun h => ?_⟩
  · have h0 : ss = [] := List.eq_nil_of_length_eq_zero (by have := h; simp at this; omega)
    subst h0
    refine sem_append u22 h1 h2 h3 rfl h4 ho hvR y1 (by simp only []; simp at hsl; omega) (by simp only []; simp at hsl; omega) fun x w2 ho2 hlen hblk hm => ⟨x, rfl, x, rfl, by simpa [vals] using ho2, ?_, hm⟩
    rcases hblk with hb | hb
    · exact .inl hb
    · exact .inr ⟨_, hb, Nat.le_refl _⟩
  · have h0 : ss.length ≠ 0 := fun e => by simp [hsl, e] at h
    have e1 : IntKind.i64.wrap ((s.len : Int) + ((1 : Nat) : Int)) = ((ss.length + 1 : Nat) : Int) := by rw [wrap_i64 (by omega)]; omega
    have e2 : IntKind.i64.wrap ((0 : Int) + ((1 : Nat) : Int)) = ((1 : Nat) : Int) := by decide
    have e3 : IntKind.i64.wrap (((ss.length + 1 : Nat) : Int) - 0) = ((ss.length + 1 : Nat) : Int) := by rw [wrap_i64 (by omega)]; omega
    simp only [e1, e2, e3, Int.toNat_natCast, Int.toNat_zero]
    refine condK_i (fun hc => ?_) fun hc => ?_
    · have hc : s.cap < ss.length + 1 := by have := hc; simp at this; omega
      have hcc := ho.2.1
      have ec : cutSl s 1 0 0 s.cap = ⟨s.a, 0, s.cap⟩ := cutSl0 hcc (Nat.zero_le _)
      rw [ec]
      have hoz := ho.take (n := 0) (Nat.zero_le _)
      refine ⟨⟨by omega, by omega⟩, ?_⟩
      refine sem_append_zerosN (s := ⟨s.a, 0, s.cap⟩) u22 (k2 := .i64) (by kernel_rfl) h1 h2 h3 rfl h4 rfl hoz (by simp only []; omega) (by simp only []; omega) (by simp only []; omega) fun c w2 ho2 hm2 => ⟨⟨some ⟨w.heap.size, 0, none⟩, 0 + (ss.length + 1), c⟩, rfl, ⟨by omega, by omega⟩, ?_⟩
      simp only [Nat.zero_add, Nat.zero_mul, List.take_zero, List.nil_append] at ho2 ⊢
      rcases ho2.owned with ⟨hz1, hz2, _⟩ | ⟨hz1, b, o, l, E, ea, hB, hfit, hcon⟩
      · simp only [] at hz2; omega
      · cases ea
        have hcl := ho2.2.1
        simp only [] at hcl hz1 hfit hcon
        simp only [List.drop_zero, Nat.mul_one] at hcon
        have hvlt := lt_of_get hv
        have ec1 : cutSl ⟨some ⟨w.heap.size, 0, none⟩, ss.length + 1, c⟩ 1 0 (ss.length + 1) c = ⟨some ⟨w.heap.size, 0, none⟩, ss.length + 1, c⟩ := cutSl0 (s := ⟨some ⟨w.heap.size, 0, none⟩, ss.length + 1, c⟩) hcl hcl
        have ec2 : cutSl ⟨some ⟨w.heap.size, 0, none⟩, ss.length + 1, c⟩ 1 1 (ss.length + 1) c = ⟨some ⟨w.heap.size, 1, none⟩, ss.length, c - 1⟩ := by
          unfold cutSl; simp only []; rw [if_neg (by omega)]; simp
        have ec3 : cutSl s 1 0 s.len s.cap = s := by rw [cutSl0 hcc hcc]
        rw [ec1]
        refine sem_copyT (d := ⟨some ⟨w.heap.size, 0, none⟩, ss.length + 1, c⟩) (o := 0) u22 h1 h3 rfl hB (by simp only []; omega) (hvR.no hm2) (fun u hu => y1 u (List.mem_of_mem_take hu)) fun w3 hB3 hm3 hsz3 => ⟨_, rfl, ?_⟩
        rw [ec2, ec3]
        refine ⟨⟨by omega, by omega⟩, ⟨by omega, by omega⟩, ?_, trivial⟩
        have em : min (Slc.len ⟨some ⟨vb, 0, none⟩, 1, 1⟩) (Slc.len ⟨some ⟨w.heap.size, 0, none⟩, ss.length + 1, c⟩) * 1 = 1 := by simp only []; omega
        rw [em] at hB3
        have hsr : SlRd w3 s 1 (vals ss) := (ho.rd.no hm2).mod hm3 fun z hz e => by have := ho.lt hz; omega
        refine sem_copyT (d := ⟨some ⟨w.heap.size, 1, none⟩, ss.length, c - 1⟩) (o := 1) u22 h1 h3 rfl hB3.drew (by rw [putAt_len (by simp; omega)]; simp only []; omega) hsr.drew (fun u hu => vals_one _ u (List.mem_of_mem_take hu)) fun w4 hB4 hm4 hsz4 => ⟨_, rfl, ?_⟩
        have em2 : min s.len (Slc.len ⟨some ⟨w.heap.size, 1, none⟩, ss.length, c - 1⟩) * 1 = ss.length := by simp only []; omega
        have etk : (vals ss).take ss.length = vals ss := List.take_of_length_le (by rw [vals_len]; exact Nat.le_refl _)
        rw [em2, etk] at hB4
        refine ⟨⟨some ⟨w.heap.size, 0, none⟩, ss.length + 1, c⟩, rfl, ⟨by simp [vals], hcl, .inr ⟨w.heap.size, 0, _, E, rfl, hB4, ?_, ?_⟩⟩, .inr ⟨w.heap.size, Slc.blk_of rfl hz1, Nat.le_refl _⟩, (hm2.fresh (hm3.tr ((Mod.drew _ _).tr hm4)) fun z e => by omega).mono fun _ _ h => h.elim⟩
        · rw [putAt_len (by rw [putAt_len (by simp; omega), vals_len]; omega), putAt_len (by simp; omega)]; exact hfit
        · have hlc : ss.length + 1 ≤ l.length := by omega
          simp only [putAt, List.drop_zero, List.take_zero, List.nil_append, List.length_cons, List.length_nil, Nat.zero_add, List.take_succ_cons]
          simp [vals]
    · have hc2 : ss.length + 1 ≤ s.cap := by have := hc; simp at this; omega
      clear hc
      have hcc := ho.2.1
      rcases ho.owned with ⟨hz1, hz2, _⟩ | ⟨hz1, b, o, l, E, ea, hB, hfit, hcon⟩
      · omega
      · obtain ⟨sa, sl, sc⟩ := s
        simp only [] at ea hz1 hfit hcon hsl hc2 hcc
        subst ea hsl
        simp only [Nat.mul_one] at hcon hfit
        have hbs : b ≠ vb := hvs b (Slc.blk_of rfl hz1)
        have ec1 : cutSl ⟨some ⟨b, o, none⟩, ss.length, sc⟩ 1 0 (ss.length + 1) sc = ⟨some ⟨b, o, none⟩, ss.length + 1, sc⟩ := cutSl0 (s := ⟨some ⟨b, o, none⟩, ss.length, sc⟩) hcc hc2
        have ec0 : cutSl ⟨some ⟨b, o, none⟩, ss.length + 1, sc⟩ 1 0 (ss.length + 1) sc = ⟨some ⟨b, o, none⟩, ss.length + 1, sc⟩ := cutSl0 (s := ⟨some ⟨b, o, none⟩, ss.length + 1, sc⟩) hc2 hc2
        have ec2 : cutSl ⟨some ⟨b, o, none⟩, ss.length + 1, sc⟩ 1 1 (ss.length + 1) sc = ⟨some ⟨b, o + 1, none⟩, ss.length, sc - 1⟩ := by
          unfold cutSl; simp only []; rw [if_neg (by omega)]; simp
        simp only [ec1, ec0, ec2]
        obtain ⟨fz, hB1, hB2⟩ := id hB
        refine ⟨⟨by omega, by omega⟩, ⟨by omega, by omega⟩, _, _, run_overl hv hB1 (by omega) (fun e => hbs e.symm), false, rfl, condK_i (fun _ => ?_) (fun h => by simp at h)⟩
        refine ⟨⟨by omega, by omega⟩, ⟨by omega, by omega⟩, ?_, trivial⟩
        have hsr : SlRd w.drew ⟨some ⟨b, o, none⟩, ss.length + 1, sc⟩ 1 ((l.drop o).take (ss.length + 1)) := ⟨by simp; omega, hc2, .inr ⟨_, rfl, hB.drew.rd fun j v hj => by
          rw [List.getElem?_take] at hj
          split at hj
          · rwa [List.getElem?_drop] at hj
          · cases hj⟩⟩
        have em : min (Slc.len ⟨some ⟨b, o, none⟩, ss.length + 1, sc⟩) (Slc.len ⟨some ⟨b, o + 1, none⟩, ss.length, sc - 1⟩) * 1 = ss.length := by simp only []; omega
        have etk : ((l.drop o).take (ss.length + 1)).take ss.length = vals ss := by rw [List.take_take, Nat.min_eq_left (by omega)]; exact hcon
        refine sem_copyT (d := ⟨some ⟨b, o + 1, none⟩, ss.length, sc - 1⟩) (o := o + 1) u22 h1 h3 rfl hB.drew (by simp only []; omega) hsr (by rw [em, etk]; exact vals_one _) fun w3 hB3 hm3 hsz3 => ⟨_, rfl, ⟨by omega, by omega⟩, ?_⟩
        rw [em, etk] at hB3
        have hpl : (putAt l (o + 1) (vals ss)).length = l.length := putAt_len (by rw [vals_len]; omega)
        refine sem_copyT (d := ⟨some ⟨b, o, none⟩, ss.length + 1, sc⟩) (o := o) u22 h1 h3 rfl hB3 (by rw [hpl]; simp only []; omega) (hvR.mod ((Mod.drew _ _).tr hm3) (fun z hz e => by rw [Slc.blk_mk] at hz; simp at hz; omega)) (fun u hu => y1 u (List.mem_of_mem_take hu)) fun w4 hB4 hm4 hsz4 => ⟨_, rfl, ?_⟩
        have em2 : min (Slc.len ⟨some ⟨vb, 0, none⟩, 1, 1⟩) (Slc.len ⟨some ⟨b, o, none⟩, ss.length + 1, sc⟩) * 1 = 1 := by simp only []; omega
        rw [em2] at hB4
        refine ⟨⟨some ⟨b, o, none⟩, ss.length + 1, sc⟩, rfl, ⟨by simp [vals], hc2, .inr ⟨b, o, _, E, rfl, hB4, ?_, ?_⟩⟩, .inl (by rw [Slc.blk_mk, Slc.blk_mk]), (((Mod.drew _ _).tr hm3).tr hm4).mono fun z _ hz => by have hz : z = b := hz; subst hz; exact Slc.blk_of rfl hz1⟩
        · show o + sc * 1 ≤ _
          rw [putAt_len (by rw [hpl]; simp; omega), hpl]; omega
        · have e5 : [y.val].take 1 = [y.val] := rfl
          rw [e5]
          have e6 : (putAt (putAt l (o + 1) (vals ss)) o [y.val]).drop o = y.val :: (vals ss ++ l.drop (o + 1 + ss.length)) := by
            simp only [putAt, vals_len, List.length_singleton]
            have t1 : ((l.take (o + 1) ++ vals ss ++ l.drop (o + 1 + ss.length)).take o) = l.take o := by
              rw [List.append_assoc, List.take_append_of_le_length (by rw [List.length_take]; omega), List.take_take, Nat.min_eq_left (by omega)]
            have t2 : ((l.take (o + 1) ++ vals ss ++ l.drop (o + 1 + ss.length)).drop (o + 1)) = vals ss ++ l.drop (o + 1 + ss.length) := by
              rw [List.append_assoc, List.drop_append_of_le_length (by rw [List.length_take]; omega), List.drop_eq_nil_of_le (by rw [List.length_take]; omega), List.nil_append]
            rw [t1, t2, List.append_assoc, List.drop_append_of_le_length (by rw [List.length_take]; omega), List.drop_eq_nil_of_le (by rw [List.length_take]; omega)]
            rfl
          rw [e6]
          have : (ss.length + 1) * 1 = (ss.length) + 1 := by omega
          simp only [Nat.mul_one, List.take_succ_cons]
          rw [List.take_append_of_le_length (by rw [vals_len]; exact Nat.le_refl _), List.take_of_length_le (by rw [vals_len]; exact Nat.le_refl _)]
          rfl
end
section
variable {P : Program} {w : World}
theorem semU_ownk {T : TypeId} {s : Slc} {k : Nat} {vs : List Value} {a : Addr} {j : Nat} {v : Value} {K : World → Prop} (hi : (P.info? T).isSome = true) (hsz : sizeAt P T = 1) (h1 : v.oneCell' = true)
    (ho : Sh.Own w s k vs) (ha : s.a = some a) (hj : j < s.len * k)
    (hk : ∀ w', Sh.Own w' s k (vs.set j v) → Mod (fun x => s.blk = some x) w w' → w'.heap.size = w.heap.size → K w') : semU P (storeVar T (a.add j) v) w K := by
  rcases ho.owned with ⟨h0, h0', _⟩ | ⟨hcp, b, o, l, E, e1, e2, e3, e4⟩
  · rw [h0', Nat.zero_mul] at hj; omega
  · rw [ha] at e1; cases e1
    have hc := ho.2.1
    have hv := ho.1
    have hck : s.len * k ≤ s.cap * k := Nat.mul_le_mul_right _ hc
    rw [addl]
    refine semU_store1 (l := l) hi hsz h1 e2 (by omega) fun w' ht hb => hk w' ?_ ?_ ht.size
    · refine ⟨by rw [List.length_set]; exact hv, hc, .inr ⟨b, o, _, E, ha, hb, by rw [List.length_set]; exact e3, ?_⟩⟩
      rw [set_drop_take l o j (s.len * k) v hj (by omega), e4]
    · refine ht.mod.mono fun x _ hx => ?_
      subst hx
      unfold Slc.blk
      rw [if_neg (by omega), ha]; rfl
end
theorem gsC_set : ∀ {l : List Gt} {i : Nat} (h : i < l.length) (x : Slc), (gsC l).set (i * 3 + 1) x.val = gsC (l.set i ⟨l[i].c, x, l[i].p⟩)
  | g :: l, 0, h, x => by simp [gsC_cons, Gt.cells]
  | g :: l, i + 1, h, x => by
    rw [gsC_cons, List.set_append, if_neg (by simp [Gt.cells]; omega)]
    have e : (i + 1) * 3 + 1 - g.cells.length = i * 3 + 1 := by have : g.cells.length = 3 := rfl; omega
    rw [e, gsC_set (by simpa using h) x]
    simp [gsC_cons]
def NW (id : Int) (sd : List UInt8) (pl : List (List UInt8)) (l : List Gt) (ks : List (List UInt8)) : Prop :=
  RGr l ∧ 1 ≤ pl.length ∧ pl.length ≤ 7 ∧ (∀ p ∈ pl, p.length = 32) ∧ sd.length = 32 ∧ ∃ i, ∃ (h : i < l.length) (h' : i < ks.length), l[i].c = id ∧ (∀ j (hj : j < i), (l[j]'(by omega)).c ≠ id) ∧ ks[i] = pubF sd
theorem NW.at {id : Int} {sd : List UInt8} {pl : List (List UInt8)} {l : List Gt} {ks : List (List UInt8)} (h : NW id sd pl l ks) {i : Nat} (hi : i < l.length) (hi' : i < ks.length) (h1 : l[i].c = id) (h2 : ∀ j (hj : j < i), (l[j]'(by omega)).c ≠ id) : ks[i] = pubF sd := by
  obtain ⟨_, _, _, _, _, k, g1, g2, g3, g4, g5⟩ := h
  rcases Nat.lt_trichotomy i k with h | h | h
  · exact absurd h1 (g4 i h)
  · subst h; exact g5
  · exact absurd g3 (h2 k h)
def RPn (p : Prop) (w : World) (v : Value) (w' : World) : Prop := ∃ x : Option Addr, v = .pointer x ∧ (x.isSome = true ↔ p) ∧ Mod NoB w w'
theorem RPn.no {p : Prop} {w w' : World} (h : ¬ p) (hm : Mod NoB w w') : RPn p w (.pointer none) w' := ⟨none, rfl, by simp [h], hm⟩
theorem RPn.yes {p : Prop} {w w' : World} {a : Addr} (h : p) (hm : Mod NoB w w') : RPn p w (.pointer (some a)) w' := ⟨some a, rfl, by simp [h], hm⟩
section
variable {w : World}
theorem c_bEqual {a b : Slc} {l m : List UInt8} (ha : SlRd w a 1 (bys l)) (hb : SlRd w b 1 (bys m)) : Calls Tryz.prog 18 #[.slice a.a a.len a.cap, .slice b.a b.len b.cap] w (Ret fun v w' => v = .bool (l == m) ∧ w' = w) := by
  refine call18 _ _ ?_
  unfold sh18
  refine sem_bytesStr u26 uStr uU8 ha ⟨l, rfl, ?_⟩
  exact sem_bytesStr u26 uStr uU8 hb ⟨m, rfl, rfl, rfl⟩
theorem c_cloneG {s : Slc} {l : List Gt} (hs : SlRd w s 3 (gsC l)) (hn : l.length ≤ 1000000) :
    Calls Tryz.prog 22 #[.slice s.a s.len s.cap] w (Ret fun v w' => ∃ s', v = s'.val ∧ Sh.Own w' s' 3 (gsC l) ∧ FB w s' ∧ Mod NoB w w') := by
  obtain ⟨i', h1, h2, h3, h4⟩ := iGrant
  have hl := rd_lenG hs
  refine call22 _ ?_
  unfold sh22
  refine ps_eql_slc (e := 29) uGrants ⟨_, rfl, condK_i (fun h => ?_) (fun h => ?_)⟩
  · have : l = [] := by
      rcases hs.2.2 with h0 | ⟨b, e1, _⟩
      · have := congrArg List.length h0; rw [gsC_len] at this; exact List.eq_nil_of_length_eq_zero (by simp at this; omega)
      · rw [e1] at h; simp at h
    subst this
    exact ⟨⟨none, 0, 0⟩, rfl, own_nil _ _, FB.nil _, Mod.refl _ _⟩
  · refine sem_lit0 uGrants h1 fun b w1 hN => ⟨⟨some ⟨b, 0, none⟩, 0, 0⟩, rfl, ?_⟩
    refine sem_append (s := ⟨some ⟨b, 0, none⟩, 0, 0⟩) uGrants h1 h2 h3 rfl h4 (own_zero _ _ _) (hs.no hN.mod) (gsC_one _) (by simp only []; omega) (by simp only []; omega) fun s' w2 ho hlen hblk hm => ⟨s', rfl, s', rfl, by simpa using ho, ?_, ?_⟩
    · intro z hz
      rcases hblk with h | h
      · rw [h] at hz; simp at hz
      · rw [h] at hz; cases hz; exact hN.mod.size
    · exact hN.mod.fresh hm fun x e => by simp at e
theorem c_sizes {x : Slc} {ss : List Slc} (hx : SlRd w x 1 (vals ss)) (hn : ss.length ≤ 1000000) :
    Calls Tryz.prog 15 #[.slice x.a x.len x.cap, .func (.func 16) #[] #[]] w (Ret fun v w' => v = .bool (!(ss.all fun s => s.len == 32)) ∧ w' = w) := by
  have hlen : ss.length = x.len := by have := hx.1; simp [vals] at this; omega
  have idx : Calls Tryz.prog 42 #[.slice x.a x.len x.cap, .func (.func 16) #[] #[]] w (Ret fun v w' => ∃ n : Int, v = .int .i64 n ∧ decide (n ≥ 0) = !(ss.all fun s => s.len == 32) ∧ w' = w) := by
    refine call42 _ _ ?_
    unfold sh42
    refine ⟨fun l' w' => match l' with | [.i _ y] => ∃ k : Nat, y = k ∧ k ≤ ss.length ∧ (ss.take k).all (fun s => s.len == 32) = true ∧ w' = w | _ => False, fun l' _ => match l' with | [.i _ y] => (ss.length - y).toNat | _ => 0, ⟨0, rfl, by omega, rfl, rfl⟩, ?_⟩
    rintro y w1 ⟨k, rfl, hk, hall, rfl⟩
    refine condK_i (fun hlt => ?_) fun hge => ?_
    · have hk' : k < ss.length := by simp at hlt; omega
      obtain ⟨a, ea, hra⟩ := rd_slc hx hk'
      rw [ea]
      refine ⟨⟨by omega, by omega⟩, _, hra, ?_⟩
      refine callFV_of (by kernel_rfl) ?_
      refine callK_ret (Q := fun v w' => v = .bool ((ss[k].len : Int) != 32) ∧ w' = w1) (call16 _ ⟨rfl, rfl⟩) ?_
      rintro v w2 ⟨rfl, rfl⟩
      refine ⟨_, rfl, condK_i (fun h => ⟨_, rfl, ?_, rfl⟩) fun h => ⟨⟨k + 1, wrap_nat (by omega), by omega, ?_, rfl⟩, ?_⟩⟩
      · have hne : ¬ ss[k].len = 32 := by simp at h; omega
        have : ss.all (fun s => s.len == 32) = false := by
          rw [List.all_eq_false]
          exact ⟨ss[k], List.getElem_mem hk', by simpa using hne⟩
        rw [this]; simp
      · rw [take_snoc hk', List.all_append, hall]
        have : ss[k].len = 32 := by simp at h; omega
        simp [this]
      · rw [wrap_nat (by omega)]; (try simp only []); omega
    · have : k = ss.length := by simp at hge; omega
      subst this
      rw [List.take_length] at hall
      exact ⟨-1, rfl, by rw [hall]; rfl, rfl⟩
  refine call15 _ _ ?_
  unfold sh15
  refine callK_ret idx ?_
  rintro v w1 ⟨n, rfl, h, rfl⟩
  exact ⟨_, rfl, by rw [h], rfl⟩
end
structure NIn (w : World) (sd : Slc) (l : List UInt8) (ps : Slc) (ss : List Slc) (pl : List (List UInt8)) (gs : Slc) (rows : List Gt) (ks : List (List UInt8)) : Prop where
  s : SlRd w sd 1 (bys l)
  slt : ∀ z, sd.blk = some z → z < w.heap.size
  sn : l.length ≤ 1000
  p : SlRd w ps 1 (vals ss)
  plt : ∀ z, ps.blk = some z → z < w.heap.size
  plen : ss.length = pl.length
  pk : ∀ i (h : i < ss.length) (h' : i < pl.length), SlRd w ss[i] 1 (bys pl[i]) ∧ ∀ z, ss[i].blk = some z → z < w.heap.size
  pn : pl.length ≤ 1000
  pln : ∀ p ∈ pl, p.length ≤ 1000
  g : GrAt w gs rows ks
  gn : rows.length ≤ 1000
  kn : ∀ k ∈ ks, k.length ≤ 1000
theorem NIn.no {w w' : World} {sd : Slc} {l : List UInt8} {ps : Slc} {ss : List Slc} {pl : List (List UInt8)} {gs : Slc} {rows : List Gt} {ks : List (List UInt8)} (h : NIn w sd l ps ss pl gs rows ks) (hm : Mod NoB w w') : NIn w' sd l ps ss pl gs rows ks :=
  ⟨h.s.no hm, fun z hz => Nat.lt_of_lt_of_le (h.slt z hz) hm.size, h.sn, h.p.no hm, fun z hz => Nat.lt_of_lt_of_le (h.plt z hz) hm.size, h.plen, fun i a b => ⟨(h.pk i a b).1.no hm, fun z hz => Nat.lt_of_lt_of_le ((h.pk i a b).2 z hz) hm.size⟩, h.pn, h.pln, h.g.no hm, h.gn, h.kn⟩
section
variable {w : World} {sd : Slc} {l : List UInt8} {ps : Slc} {ss : List Slc} {pl : List (List UInt8)} {gs : Slc} {rows : List Gt} {ks : List (List UInt8)}
theorem NIn.all32 (h : NIn w sd l ps ss pl gs rows ks) : (ss.all fun s => s.len == 32) = true ↔ ∀ p ∈ pl, p.length = 32 := by
  rw [List.all_eq_true]
  constructor
  · intro hA p hp
    obtain ⟨i, hi, rfl⟩ := List.getElem_of_mem hp
    have hi' : i < ss.length := by rw [h.plen]; exact hi
    have := hA _ (List.getElem_mem hi')
    have h2 := rd_len8 (h.pk i hi' hi).1
    simp at this; omega
  · intro hA s hs
    obtain ⟨i, hi, rfl⟩ := List.getElem_of_mem hs
    have hi' : i < pl.length := by rw [← h.plen]; exact hi
    have := hA _ (List.getElem_mem hi')
    have h2 := rd_len8 (h.pk i hi hi').1
    simp; omega
theorem NIn.plens (h : NIn w sd l ps ss pl gs rows ks) : pl.length = ps.len := by
  have := h.p.1; rw [vals_len] at this; rw [← h.plen]; omega
theorem c_rNew {id : Int} (hG : GS w) (hI : NIn w sd l ps ss pl gs rows ks) :
    Calls Tryz.prog 6 #[.int .i64 id, .slice sd.a sd.len sd.cap, .slice ps.a ps.len ps.cap, .slice gs.a gs.len gs.cap] w (Ret (RPn (NW id l pl rows ks) w)) := by
  have hsl := rd_len8 hI.s
  have hpl := hI.plens
  obtain ⟨ig, i1, i2, i3, i4⟩ := iGrant
  refine call6 _ _ _ _ ?_
  unfold sh6
  refine ⟨fun l' w' => match l' with | [.b t] => Mod NoB w w' ∧ (t = true → ¬ NW id l pl rows ks) ∧ (t = false → l.length = 32 ∧ 1 ≤ pl.length ∧ pl.length ≤ 7 ∧ RGr rows) | _ => False, ?_, ?_⟩
  · have inr : NW id l pl rows ks → 1 ≤ id ∧ id ≤ 8 := fun h => by
      obtain ⟨hR, _, _, _, _, k, g1, g2, g3, _⟩ := h
      have := hR k g1
      rw [← g3]; exact ⟨this.1, this.2.1⟩
    refine condK_i (fun h => ⟨Mod.refl _ _, fun _ hN => by have := inr hN; simp at h; omega, fun h => by cases h⟩) fun h1 => ?_
    refine condK_i (fun h => ⟨Mod.refl _ _, fun _ hN => by have := inr hN; simp at h; omega, fun h => by cases h⟩) fun h2 => ?_
    refine condK_i (fun h => ⟨Mod.refl _ _, fun _ hN => by have := hN.2.2.2.2.1; simp at h; omega, fun h => by cases h⟩) fun h3 => ?_
    refine condK_i (fun h => ⟨Mod.refl _ _, fun _ hN => by have := hN.2.1; simp at h; omega, fun h => by cases h⟩) fun h4 => ?_
    refine condK_i (fun h => ⟨Mod.refl _ _, fun _ hN => by have := hN.2.2.1; simp at h; omega, fun h => by cases h⟩) fun h5 => ?_
    refine callK_ret (c_rRight hI.g (by have := hI.gn; omega)) ?_
    rintro v w1 ⟨b, rfl, hb, hm1⟩
    refine ⟨b, rfl, hm1, fun h hN => ?_, fun h => ?_⟩
    · have := hb.2 hN.1; simp [this] at h
    · have : b = true := by simpa using h
      exact ⟨by simp at h3; omega, by simp at h4; omega, by simp at h5; omega, hb.1 this⟩
  rintro t w2 ⟨hm2, ht, hf⟩
  refine condK_i (fun h => RPn.no (ht h) hm2) fun h => ?_
  obtain ⟨q1, q2, q3, q4⟩ := hf h
  have hI2 := hI.no hm2
  refine ⟨fun l' w' => match l' with | [.i _ x] => ∃ k : Nat, x = k ∧ k ≤ pl.length ∧ (∀ i (h : i < pl.length), i < k → pl[i].length = 32) ∧ w' = w2 | _ => False, fun l' _ => match l' with | [.i _ x] => (pl.length - x).toNat | _ => 0, ⟨0, rfl, by omega, fun i h h0 => by omega, rfl⟩, ?_⟩
  rintro x w3 ⟨k, rfl, hk, hgo, rfl⟩
  refine condK_i (fun hlt => ?_) fun hge => ?_
  · have hk' : k < pl.length := by simp at hlt; omega
    have hks : k < ss.length := by rw [hI.plen]; exact hk'
    obtain ⟨a, ea, hr⟩ := rd_slc hI2.p hks
    have h8 := rd_len8 (hI2.pk k hks hk').1
    rw [ea]
    refine ⟨⟨by omega, by omega⟩, ss[k], hr, condK_i (fun h => RPn.no (fun hN => ?_) hm2) fun h => ⟨⟨k + 1, wrap_nat (by omega), by omega, fun i hi hik => ?_, rfl⟩, ?_⟩⟩
    · have := hN.2.2.2.1 _ (List.getElem_mem hk'); simp at h; omega
    · rcases Nat.lt_or_ge i k with h1 | h1
      · exact hgo i hi h1
      · obtain rfl : i = k := by omega
        simp at h; omega
    · rw [wrap_nat (by omega)]; (try simp only []); omega
  have hk' : k = pl.length := by simp at hge; omega
  subst hk'
  have q5 : ∀ p ∈ pl, p.length = 32 := fun p hp => by
    obtain ⟨i, hi, rfl⟩ := List.getElem_of_mem hp
    exact hgo i hi hi
  refine callK_ret (c_rFind hI2.g (by have := hI.gn; omega) fun k hk => by have := hI.kn k hk; omega) ?_
  rintro v w4 ⟨g, b, rfl, hm4, hres⟩
  refine ⟨g.c, g.s, g.p, b, rfl, ?_⟩
  refine sem_alloc (l := g0.cells) i1 i2 rfl fun q w5 hN5 hb5 => ⟨_, rfl, ?_⟩
  have hM4 := hm2.tr hm4
  have hM5 := hM4.tr hN5.mod
  have e5 := hN5.at_
  have z4 := hM4.size
  have hone : ∀ g : Gt, ∀ u ∈ g.cells, u.oneCell' = true := by intro g u hu; simp [Gt.cells] at hu; rcases hu with rfl | rfl | rfl <;> rfl
  refine semU_store (o := 0) (vs := g.cells) (by kernel_rfl) (by kernel_rfl) rfl hb5 (by simp [Gt.cells, g0]) (hone g) fun w6 ht6 hq6 => ?_
  rw [putg] at hq6
  have hM6 : Mod NoB w w6 := hM5.fresh ht6.mod fun z e => by (have : z = q := e); omega
  have hM46 : Mod NoB w4 w6 := hN5.mod.fresh ht6.mod fun z e => by (have : z = q := e); omega
  have hmd : Mod NoB w6 w6.drew := Mod.drew _ _
  refine ⟨fun l' w' => match l' with | [.b t] => Mod NoB w w' ∧ (t = true → ¬ NW id l pl rows ks) ∧ (t = false → NW id l pl rows ks) | _ => False, ⟨fun w' => Mod NoB w6 w', hmd, ?_⟩, ?_⟩
  · refine condK_i (fun hb => ⟨⟨hmd, ⟨hM6.tr hmd, fun _ hN => ?_, fun h => by cases h⟩, trivial⟩, trivial⟩) fun hb => ?_
    · rcases hres with ⟨_, _, hno⟩ | ⟨rfl, _⟩
      · obtain ⟨_, _, _, _, _, k, g1, g2, g3, _⟩ := hN
        exact hno k g1 g3
      · simp at hb
    rcases hres with ⟨rfl, _⟩ | ⟨_, i, hi, hi2, g1, g2, g3, g4⟩
    · simp at hb
    refine ⟨g.s, fun w' hm => (hq6.no hm).rd1 (o := 1) rfl, ?_, trivial⟩
    have hI6 := hI.no (hM6.tr hmd)
    refine callK_ret (c_PublicF (hG.no (hM6.tr hmd)) hI6.s hI6.slt q1) ?_
    rintro v w7 ⟨bb, T, rfl, hb7, hs7, hm7⟩
    refine ⟨⟨some ⟨bb, 0, none⟩, _, _⟩, rfl, hmd.tr hm7, ?_, trivial⟩
    refine callK_ret (c_same (l := ks[i]) (m := pubF l) (g3.no ((hM46.tr hmd).tr hm7)) (own_whole (k := 1) hb7 (by simp [bys])).rd (by have := hI.kn _ (List.getElem_mem hi2); omega)) ?_
    rintro v w8 ⟨rfl, hm8⟩
    have hM8 := ((hM6.tr hmd).tr hm7).tr hm8
    refine ⟨_, rfl, hM8, fun h hN => ?_, fun h => ?_⟩
    · have := hN.at hi hi2 g1 g2
      simp [this] at h
    · have : ks[i] = pubF l := by simpa using h
      exact ⟨q4, q2, q3, q5, q1, i, hi, hi2, g1, g2, this⟩
  rintro t9 w9 ⟨hm9, ht9, hf9⟩
  refine condK_i (fun h => RPn.no (ht9 h) hm9) fun h => ?_
  refine sem_box (l := [.int .i64 id, sd.val, ps.val, gs.val, .int .i64 0, .int .i64 0, .slice none 0 0, .slice none 0 0, .slice none 0 0, .string ⟨#[]⟩, .int .i64 0, .slice none 0 0]) rfl fun p w10 hN10 hb10 => ⟨_, rfl, ?_⟩
  exact RPn.yes (hf9 h) (hm9.tr hN10.mod)
end
section
variable {w : World} {sd : Slc} {l : List UInt8} {ps : Slc} {ss : List Slc} {pl : List (List UInt8)} {gs : Slc} {rows : List Gt} {ks : List (List UInt8)}
def PAt (w : World) (x : Slc) (ss : List Slc) : Prop := ∀ s ∈ ss, (∃ l : List UInt8, l.length ≤ 1000 ∧ SlRd w s 1 (bys l)) ∧ ∀ z, s.blk = some z → z < w.heap.size ∧ ¬ x.blk = some z
theorem PAt.mod {w w' : World} {x : Slc} {ss : List Slc} (h : PAt w x ss) (hm : Mod (fun z => x.blk = some z) w w') : PAt w' x ss := fun s hs => by
  obtain ⟨⟨l, h1, h2⟩, h3⟩ := h s hs
  exact ⟨⟨l, h1, h2.mod hm fun z hz => (h3 z hz).2⟩, fun z hz => ⟨Nat.lt_of_lt_of_le (h3 z hz).1 hm.size, (h3 z hz).2⟩⟩
theorem PAt.no {w w' : World} {x : Slc} {ss : List Slc} (h : PAt w x ss) (hm : Mod NoB w w') : PAt w' x ss := h.mod (hm.mono fun _ _ h => h.elim)
theorem PAt.set {w : World} {x : Slc} {ss : List Slc} {i : Nat} {s : Slc} (h : PAt w x ss) (hs : PAt w x [s]) : PAt w x (ss.set i s) := fun t ht => by
  rcases List.mem_or_eq_of_mem_set ht with h1 | h1
  · exact h t h1
  · subst h1; exact hs t List.mem_cons_self
theorem vals_set (ss : List Slc) (i : Nat) (s : Slc) : (vals ss).set i s.val = vals (ss.set i s) := by simp [vals, List.map_set]
def cCells (m0 m1 m2 : Option Nat) (id : Int) (a b c : Slc) : List Value := [.map m0, .int .i64 0, .map m1, .map m2, .int .i64 0, .string ⟨#[]⟩, .int .i64 0, .map none, .map none, .int .i64 id, a.val, b.val, c.val]
theorem c_New {id : Int} (hG : GS w) (hI : NIn w sd l ps ss pl gs rows ks) :
    Calls Tryz.prog 5 #[.int .i64 id, .slice sd.a sd.len sd.cap, .slice ps.a ps.len ps.cap, .slice gs.a gs.len gs.cap] w (Ret (RPn (NW id l pl rows ks) w)) := by
  have hsl := rd_len8 hI.s
  have hpl := hI.plens
  have hsn := hI.sn; have hpn := hI.pn; have hgn := hI.gn
  obtain ⟨ig, i1, i2, i3, i4⟩ := iGrant
  refine call5 _ _ _ _ ?_
  unfold sh5
  refine callK_ret (c_gFind hI.g (by omega) fun k hk => by have := hI.kn k hk; omega) ?_
  rintro v w1 ⟨g, b, rfl, hm1, hres⟩
  refine ⟨g.c, g.s, g.p, b, rfl, ?_⟩
  refine sem_alloc (l := g0.cells) i1 i2 rfl fun q w2 hN2 hb2 => ⟨_, rfl, ?_⟩
  have hone : ∀ g : Gt, ∀ u ∈ g.cells, u.oneCell' = true := by intro g u hu; simp [Gt.cells] at hu; rcases hu with rfl | rfl | rfl <;> rfl
  refine semU_store (o := 0) (vs := g.cells) (by kernel_rfl) (by kernel_rfl) rfl hb2 (by simp [Gt.cells, g0]) (hone g) fun w3 ht3 hq3 => ?_
  rw [putg] at hq3
  have e2 := hN2.at_; have z1 := hm1.size
  have hM13 : Mod NoB w1 w3 := hN2.mod.fresh ht3.mod fun z e => by (have : z = q := e); omega
  have hM3 : Mod NoB w w3 := hm1.tr hM13
  have hI3 := hI.no hM3
  refine callK_ret (c_sizes hI3.p (by have := hI.plen; omega)) ?_
  rintro v w4 ⟨rfl, rfl⟩
  refine ⟨_, rfl, ?_⟩
  have h32 := hI3.all32
  have hmd : Mod NoB w4 w4.drew := Mod.drew _ _
  refine ⟨fun l' w' => match l' with | [.b t] => Mod NoB w w' ∧ (t = true → ¬ NW id l pl rows ks) ∧ (t = false → NW id l pl rows ks) | _ => False, ⟨fun w' => Mod NoB w4 w', hmd, ?_⟩, ?_⟩
  · have hN' : NW id l pl rows ks → ∃ i, ∃ (h : i < rows.length), rows[i].c = id := fun hN => by
      obtain ⟨_, _, _, _, _, k, g1, _, g3, _⟩ := hN
      exact ⟨k, g1, g3⟩
    refine condK_i (fun hb => ⟨⟨hmd, ⟨hmd, ⟨hM3.tr hmd, fun _ hN => ?_, fun h => by cases h⟩, trivial⟩, trivial⟩, trivial⟩) fun hb => ?_
    · rcases hres with ⟨_, _, hno⟩ | ⟨rfl, _⟩
      · obtain ⟨k, g1, g3⟩ := hN' hN
        exact hno k g1 g3
      · simp at hb
    rcases hres with ⟨rfl, _⟩ | ⟨_, i, hi, hi2, g1, g2, g3, g4⟩
    · simp at hb
    have hI4 := hI.no (hM3.tr hmd)
    refine ⟨?_, trivial⟩
    refine callK_ret (c_gRight hI4.g (by omega)) ?_
    rintro v w5 ⟨r, rfl, hr, hm5⟩
    refine ⟨r, rfl, hmd.tr hm5, ?_⟩
    have hM5 := (hM3.tr hmd).tr hm5
    have fin : ¬ NW id l pl rows ks → ((Mod NoB w4 w5 ∧ (Mod NoB w w5 ∧ (true = true → ¬ NW id l pl rows ks) ∧ (true = false → NW id l pl rows ks)) ∧ True) ∧ True) := fun h => ⟨⟨hmd.tr hm5, ⟨hM5, fun _ => h, fun h => by cases h⟩, trivial⟩, trivial⟩
    refine condK_i (fun h => fin fun hN => by have := hr.2 hN.1; simp [this] at h) fun h1 => ?_
    refine condK_i (fun h => fin fun hN => by have := hN.2.1; simp at h; omega) fun h2 => ?_
    refine condK_i (fun h => fin fun hN => by have := hN.2.2.1; simp at h; omega) fun h3 => ?_
    refine condK_i (fun h => fin fun hN => by have := h32.2 hN.2.2.2.1; simp [this] at h) fun h4 => ?_
    refine condK_i (fun h => fin fun hN => by have := hN.2.2.2.2.1; simp at h; omega) fun h5 => ?_
    refine ⟨g.s, fun w' hm => (hq3.no hm).rd1 (o := 1) rfl, ?_, trivial⟩
    have hI5 := hI.no hM5
    have q1 : l.length = 32 := by simp at h5; omega
    refine callK_ret (c_PublicF (hG.no hM5) hI5.s hI5.slt q1) ?_
    rintro v w6 ⟨bb, T, rfl, hb6, hs6, hm6⟩
    refine ⟨⟨some ⟨bb, 0, none⟩, _, _⟩, rfl, (hmd.tr hm5).tr hm6, ?_, trivial⟩
    refine callK_ret (c_bEqual (l := ks[i]) (m := pubF l) (g3.no (((hM13.tr hmd).tr hm5).tr hm6)) (own_whole (k := 1) hb6 (by simp [bys])).rd) ?_
    rintro v w7 ⟨rfl, rfl⟩
    refine ⟨_, rfl, hM5.tr hm6, fun h hN => ?_, fun h => ?_⟩
    · have := hN.at hi hi2 g1 g2
      simp [this] at h
    · have : ks[i] = pubF l := by simpa using h
      exact ⟨hr.1 (by simpa using h1), by simp at h2; omega, by simp at h3; omega, h32.1 (by simpa using h4), q1, i, hi, hi2, g1, g2, this⟩
  rintro t w8 ⟨hm8, ht, hf⟩
  refine condK_i (fun h => RPn.no (ht h) hm8) fun h => ?_
  have hNW := hf h
  refine sem_makeMap (d := .bool) fun b0 w9 hb9 hs9 hB9 hm9 => ⟨_, rfl, ?_⟩
  refine sem_makeMap (d := .bool) fun b1 w10 hb10 hs10 hB10 hm10 => ⟨_, rfl, ?_⟩
  refine sem_makeMap (d := .bool) fun b2 w11 hb11 hs11 hB11 hm11 => ⟨_, rfl, ?_⟩
  have hM11 := ((hm8.tr hm9).tr hm10).tr hm11
  have hI11 := hI.no hM11
  refine callK_ret (c_clone hI11.s (by omega)) ?_
  rintro v w12 ⟨x9, rfl, ho9, hf9, hm12⟩
  refine ⟨x9, rfl, ?_⟩
  have hM12 := hM11.tr hm12
  have hI12 := hI.no hM12
  refine callK_ret (c_cloneR hI12.p (by have := hI.plen; omega)) ?_
  rintro v w13 ⟨x10, rfl, ho10, hf10, hm13⟩
  refine ⟨x10, rfl, ?_⟩
  have hM13' := hM12.tr hm13
  have hI13 := hI.no hM13'
  refine callK_ret (c_cloneG hI13.g.rd (by omega)) ?_
  rintro v w14 ⟨x11, rfl, ho11, hf11, hm14⟩
  refine ⟨x11, rfl, ?_⟩
  have hM14 := hM13'.tr hm14
  have hI14 := hI.no hM14
  refine sem_box (l := cCells (some b0) (some b1) (some b2) id x9 x10 x11) rfl fun cb w15 hN15 hb15 => ⟨_, rfl, ?_⟩
  have hM15 := hM14.tr hN15.mod
  have e15 := hN15.at_
  have hcl := hb15.lt
  have ho10' := (ho10.no hm14).no hN15.mod
  have ho11' := ho11.no hN15.mod
  have z12 := hM12.size; have z13 := hm13.size; have z14 := hm14.size
  have l10 : ∀ z, x10.blk = some z → w.heap.size ≤ z ∧ z < cb := fun z hz => by have h1 := hf10 z hz; have h2 := ho10.lt hz; omega
  have l11 : ∀ z, x11.blk = some z → w.heap.size ≤ z ∧ z < cb := fun z hz => by have h1 := hf11 z hz; have h2 := ho11.lt hz; omega
  have d1011 : ∀ z, x10.blk = some z → ¬ x11.blk = some z := fun z hz e => by have h1 := ho10.lt hz; have h2 := hf11 z e; omega
  have hlen10 : x10.len = pl.length := by have := ho10.1; rw [vals_len] at this; have := hI.plen; omega
  have hlen11 := rd_lenG ho11.rd
  have hP10 : PAt w15 x10 ss := fun s hs => by
    obtain ⟨i, hi, rfl⟩ := List.getElem_of_mem hs
    have hi' : i < pl.length := by rw [← hI.plen]; exact hi
    have hI15 := hI.no hM15
    exact ⟨⟨pl[i], hI.pln _ (List.getElem_mem hi'), (hI15.pk i hi hi').1⟩, fun z hz => ⟨(hI15.pk i hi hi').2 z hz, fun e => by have h1 := (hI.pk i hi hi').2 z hz; have h2 := (l10 z e).1; omega⟩⟩
  refine ⟨x10, hb15.rd1 (o := 11) rfl, ?_⟩
  refine ⟨fun l' w' => match l' with | [.i _ x] => ∃ k : Nat, x = k ∧ k ≤ pl.length ∧ Mod (fun z => x10.blk = some z) w15 w' ∧ ∃ ss', Sh.Own w' x10 1 (vals ss') ∧ ss'.length = pl.length ∧ PAt w' x10 ss' | _ => False, fun l' _ => match l' with | [.i _ x] => (pl.length - x).toNat | _ => 0, ⟨0, rfl, by omega, Mod.refl _ _, ss, ho10', hI.plen, hP10⟩, ?_⟩
  rintro x w16 ⟨k, rfl, hk, hm16, ss', ho16, hls, hP16⟩
  have hb16 : Blk w16 cb (cCells (some b0) (some b1) (some b2) id x9 x10 x11) _ := hb15.mod hm16 fun e => by have := (l10 cb e).2; omega
  refine condK_i (fun hlt => ?_) fun hge => ?_
  · have hk' : k < ss'.length := by simp at hlt; omega
    obtain ⟨a, ea, hr⟩ := rd_slc ho16.rd hk'
    have hmd16 : Mod NoB w16 w16.drew := Mod.drew _ _
    have hb : (0 : Int) ≤ (k : Int) ∧ (k : Int) < (x10.len : Nat) := ⟨by omega, by omega⟩
    refine ⟨fun w' => Mod NoB w16 w', hmd16, x10, fun w' hm => (hb16.no hm).rd1 (o := 11) rfl, x10, fun w' hm => (hb16.no hm).rd1 (o := 11) rfl, hb, ?_⟩
    rw [ea]
    refine ⟨ss'[k], fun w' hm => Rd.mod hr hm fun h => h, ?_, trivial⟩
    obtain ⟨⟨lk, hlk, hrk⟩, hbk⟩ := hP16 _ (List.getElem_mem hk')
    refine callK_ret (c_clone (hrk.no hmd16) (by omega)) ?_
    rintro v w17 ⟨x18, rfl, ho17, hf17, hm17⟩
    refine ⟨x18, rfl, hmd16.tr hm17, hb, ?_⟩
    have hf17 : FB w16.drew x18 := FB.of hf17
    have hmm : Mod NoB w16 w17 := hmd16.tr hm17
    refine ⟨?_, trivial⟩
    show semU _ (storeVar _ (a.add (k * 1)) x18.val) _ _
    refine semU_ownk (k := 1) (by kernel_rfl) (by kernel_rfl) rfl (ho16.no hmm) ea (j := k * 1) (by omega) fun w18 ho18 hm18 hs18 => ⟨⟨k + 1, wrap_nat (by omega), by omega, (hm16.tr (hmm.mono fun _ _ h => h.elim)).tr hm18, ss'.set k x18, ?_, by rw [List.length_set]; exact hls, ?_⟩, ?_⟩
    · rw [Nat.mul_one, vals_set] at ho18
      exact ho18
    · have hlt10 : ∀ z, x10.blk = some z → z < w16.heap.size := fun z hz => ho16.lt hz
      have hz16 : w16.drew.heap.size = w16.heap.size := rfl
      refine ((hP16.no hmm).set fun t ht => ?_).mod hm18
      simp at ht; subst ht
      exact ⟨⟨lk, hlk, ho17.rd⟩, fun z hz => ⟨ho17.lt hz, fun e => by have h1 := hf17 z hz; have h2 := hlt10 z e; omega⟩⟩
    · rw [wrap_nat (by omega)]; (try simp only []); omega
  have hP11 : PAt w16 x11 (rows.map Gt.s) := fun s hs => by
    obtain ⟨r, hr, rfl⟩ := List.mem_map.1 hs
    obtain ⟨i, hi, rfl⟩ := List.getElem_of_mem hr
    have hi' : i < ks.length := by rw [← hI.g.len]; exact hi
    have hI15 := hI.no hM15
    refine ⟨⟨ks[i], hI.kn _ (List.getElem_mem hi'), (hI15.g.key i hi hi').1.mod hm16 fun z hz e => ?_⟩, fun z hz => ⟨Nat.lt_of_lt_of_le ((hI15.g.key i hi hi').2 z hz) hm16.size, fun e => ?_⟩⟩
    · have h1 := (hI.g.key i hi hi').2 z hz; have h2 := (l10 z e).1; omega
    · have h1 := (hI.g.key i hi hi').2 z hz; have h2 := (l11 z e).1; omega
  have ho11'' : Sh.Own w16 x11 3 (gsC rows) := ho11'.mod hm16 fun z hz e => d1011 z e hz
  have hM16 : Mod NoB w w16 := hM15.fresh hm16 fun z e => (l10 z e).1
  refine ⟨x11, hb16.rd1 (o := 12) rfl, ?_⟩
  refine ⟨fun l' w' => match l' with | [.i _ x] => ∃ k : Nat, x = k ∧ k ≤ rows.length ∧ Mod (fun z => x11.blk = some z) w16 w' ∧ ∃ gs', Sh.Own w' x11 3 (gsC gs') ∧ gs'.length = rows.length ∧ PAt w' x11 (gs'.map Gt.s) | _ => False, fun l' _ => match l' with | [.i _ x] => (rows.length - x).toNat | _ => 0, ⟨0, rfl, by omega, Mod.refl _ _, rows, ho11'', rfl, hP11⟩, ?_⟩
  rintro x w19 ⟨k2, rfl, hk2, hm19, gs', ho19, hlg, hP19⟩
  have hb19 : Blk w19 cb (cCells (some b0) (some b1) (some b2) id x9 x10 x11) _ := hb16.mod hm19 fun e => by have := (l11 cb e).2; omega
  refine condK_i (fun hlt => ?_) fun hge => ?_
  · have hk' : k2 < gs'.length := by simp at hlt; omega
    obtain ⟨a, ea, hr⟩ := rd_g ho19.rd hk'
    have hmd19 : Mod NoB w19 w19.drew := Mod.drew _ _
    have hb : (0 : Int) ≤ (k2 : Int) ∧ (k2 : Int) < (x11.len : Nat) := ⟨by omega, by omega⟩
    refine ⟨fun w' => Mod NoB w19 w', hmd19, x11, fun w' hm => (hb19.no hm).rd1 (o := 12) rfl, x11, fun w' hm => (hb19.no hm).rd1 (o := 12) rfl, hb, ?_⟩
    rw [ea]
    refine ⟨gs'[k2].s, fun w' hm => Rd.mod (rd_nth hr 1 rfl) hm fun h => h, ?_, trivial⟩
    obtain ⟨⟨lk, hlk, hrk⟩, hbk⟩ := hP19 gs'[k2].s (List.mem_map.2 ⟨_, List.getElem_mem hk', rfl⟩)
    refine callK_ret (c_clone (hrk.no hmd19) (by omega)) ?_
    rintro v w20 ⟨x24, rfl, ho20, hf20, hm20⟩
    refine ⟨x24, rfl, hmd19.tr hm20, hb, ?_⟩
    have hf20 : FB w19.drew x24 := FB.of hf20
    have hmm : Mod NoB w19 w20 := hmd19.tr hm20
    refine ⟨?_, trivial⟩
    show semU _ (storeVar _ ((a.add (k2 * 3)).add 1) x24.val) _ _
    rw [Addr.add_add']
    refine semU_ownk (k := 3) (by kernel_rfl) (by kernel_rfl) rfl (ho19.no hmm) ea (j := k2 * 3 + 1) (by omega) fun w21 ho21 hm21 hs21 => ⟨⟨k2 + 1, wrap_nat (by omega), by omega, (hm19.tr (hmm.mono fun _ _ h => h.elim)).tr hm21, gs'.set k2 ⟨gs'[k2].c, x24, gs'[k2].p⟩, ?_, by rw [List.length_set]; exact hlg, ?_⟩, ?_⟩
    · rw [gsC_set hk'] at ho21
      exact ho21
    · have hlt11 : ∀ z, x11.blk = some z → z < w19.heap.size := fun z hz => ho19.lt hz
      have hz19 : w19.drew.heap.size = w19.heap.size := rfl
      rw [List.map_set]
      refine ((hP19.no hmm).set fun t ht => ?_).mod hm21
      simp at ht; subst ht
      exact ⟨⟨lk, hlk, ho20.rd⟩, fun z hz => ⟨ho20.lt hz, fun e => by have h1 := hf20 z hz; have h2 := hlt11 z e; omega⟩⟩
    · rw [wrap_nat (by omega)]; (try simp only []); omega
  exact RPn.yes hNW (hM16.fresh hm19 fun z e => (l11 z e).1)
end
end Go.Proofs.YtdjmobighhfogaaGreatDoor
end
section
namespace Go.Proofs.YtdjmobighhfogaaGreatDoor
open Go Go.Sh Go.X
def RW (l : List UInt8) (w : World) (v : Value) (w' : World) : Prop := ∃ x : Slc, v = x.val ∧ Row0 5 w' x (bys l) ∧ FB w x ∧ Mod NoB w w'
theorem row0_no {T : TypeId} {w w' : World} {s : Slc} {vs : List Value} (h : Row0 T w s vs) (hm : Mod NoB w w') : Row0 T w' s vs := h.mod hm fun _ _ h => h
theorem callW {w : World} {l : List UInt8} {g : FuncId} {args : List Value} {pan : List PanicEntry → World → Prop} {K : Slc → World → Prop} (hc : Calls Tryz.prog g args.toArray w (Ret (RW l w))) (hK : ∀ (x : Slc) w', Row0 5 w' x (bys l) → FB w x → Mod NoB w w' → K x w') :
    callK Tryz.prog g args w pan fun v w' => ∃ x : Slc, v = .slice x.a x.len x.cap ∧ K x w' :=
  callK_ret hc fun v w' ⟨x, hv, h1, h2, h3⟩ => ⟨x, hv, hK x w' h1 h2 h3⟩
section
variable {P : Program} {w : World} {K : Value → World → Prop}
theorem sem_append_zeros0 {t t2 ty e : TypeId} {k2 : IntKind} {i : TypeInfo} {z : Value} (ht : P.underlying t = some (.slice e)) (ht2 : P.underlying t2 = some (.int k2)) (hi : P.info? e = some i) (hz : i.zero = some z) (hk : i.size = 1) (hzc : z.cells = #[z]) {bytes : Nat} (hby : i.bytes = bytes)
    {n : Nat} {xn : Int} {kn : IntKind} (hxn : xn = n) (hb : n * bytes ≤ 140737488355328) (hm : n ≤ 9223372036854775807) (h0 : 0 < n)
    (hK : ∀ (c : Nat) (w' : World), n ≤ c → (∃ l, Blk w' w.heap.size l e ∧ l.length = c ∧ l.take n = List.replicate n z) → Mod NoB w w' → K (.slice (some ⟨w.heap.size, 0, none⟩) n c) w') :
    semK P (Builtin.append_ #[t, t2] ty #[.slice none 0 0, .int kn xn]) w K := by
  subst hby hxn
  have hw : IntKind.i64.wrap (n : Int) = n := wrap_i64 (by omega)
  have hn0 : ¬ ((n : Int) < 0) := by omega
  have hbig : ¬ ((281474976710656 : Int) < (n : Int) * i.bytes) := by
    have : ((n : Int) * i.bytes) = ((n * i.bytes : Nat) : Int) := by simp
    rw [this]
    omega
  have h0 : n ≠ 0 := by omega
  have hm' : ¬ ((9223372036854775807 : Int) < (n : Int)) := by omega
  have h48 : ¬ (281474976710656 < Builtin.nextslicecap n 0 * i.bytes) := by
    have := growslice_fits (need := n) (old := 0) (by omega) (by simpa using hb); omega
  have hn : ¬ (n ≤ 0) := by omega
  have hge := grownCap_ge w n 0 e
  have hrun : (Builtin.append_ #[t, t2] ty #[.slice none 0 0, .int kn (n : Int)]).run P w = .ok (.slice (some ⟨w.heap.size, 0, none⟩) n (grownCap w n 0 e)) (w.drew.alloc (.cells ((List.replicate n z).toArray ++ Builtin.zeroCells z.cells (grownCap w n 0 e - n)) e)) := by
    have hfs' := run_firstCells (P := P) (w := w.drew) (Go.Sh.rd_nil w.drew 1)
    simp only [List.toArray] at hfs'
    simp [Builtin.append_, run_underlying ht, run_underlying ht2, sizeOf, typeInfo, zeroValue, hi, hz, asInt, asIntOf, hw, hn0, hbig, h0, hn, hm', h48, Question.forced, newRow, grownCap, hk, hzc, zc1]
    rw [hfs']
    simp only [Result.andThen_ok]
    simp
  have hn' := new_alloc_drew w (.cells ((List.replicate n z).toArray ++ Builtin.zeroCells z.cells (grownCap w n 0 e - n)) e)
  have hblk : Blk (w.drew.alloc (.cells ((List.replicate n z).toArray ++ Builtin.zeroCells z.cells (grownCap w n 0 e - n)) e)) w.heap.size (List.replicate n z ++ (Builtin.zeroCells z.cells (grownCap w n 0 e - n)).toList) e := by
    refine Blk.mk ?_
    rw [hn'.get]
    congr 2
    apply Array.ext'
    simp
  refine ⟨_, _, hrun, hK (grownCap w n 0 e) _ hge ⟨_, hblk, by simp [hzc, zc1]; omega, ?_⟩ hn'.mod⟩
  rw [List.take_append_of_le_length (by simp), List.take_of_length_le (by simp)]
end
section
variable {w : World}
theorem c_grow0W {n : Nat} (hn : n ≤ 2000000000) (h0 : 0 < n) : Calls Tryz.prog 151 #[.slice none 0 0, .int .i64 n] w (Ret (RW [] w)) := by
  refine call151 ⟨none, 0, 0⟩ _ ?_
  unfold sh151
  obtain ⟨i5', h51, h52, h53, h54⟩ := i5
  refine ⟨fun l w' => w' = w, condK_i (fun h => by simp at h; omega) fun _ => rfl, ?_⟩
  rintro w1 rfl
  have e1 : IntKind.i64.wrap ((n : Int) - IntKind.i64.wrap (((0 : Nat) : Int) - ((0 : Nat) : Int))) = (n : Int) := by
    rw [show (((0 : Nat) : Int) - ((0 : Nat) : Int)) = 0 from rfl, wrap_i64 (e := 0) (by omega), wrap_i64 (by omega)]; omega
  simp only [e1]
  refine condK_i (fun h => ?_) fun h => by simp at h; omega
  refine ⟨⟨by omega, by omega⟩, ?_⟩
  refine sem_append_zeros0 u26 (k2 := .i64) (by kernel_rfl) h51 h52 h53 rfl h54 rfl (by omega) (by omega) h0 fun c w2 hc ⟨l, hb, hl, htk⟩ hm => ⟨⟨some ⟨w1.heap.size, 0, none⟩, n, c⟩, rfl, ⟨by omega, by simp only []; omega⟩, ?_⟩
  have hx0 : cutSl ⟨some ⟨w1.heap.size, 0, none⟩, n, c⟩ 1 0 (((0 : Nat) : Int)).toNat c = ⟨some ⟨w1.heap.size, 0, none⟩, 0, c⟩ := cutSl0 hc (Nat.zero_le _)
  rw [hx0]
  exact ⟨_, rfl, .inr ⟨_, _, _, l, rfl, by omega, hb, hl, rfl, Nat.zero_le _⟩, FB.new (Nat.le_refl _), hm⟩
theorem c_concatW {parts : Slc} {pl : List (List UInt8)} {X : Nat → Prop} (hp : PartsAt w parts pl X) (hXl : ∀ x, X x → x < w.heap.size) (hn : pl.flatten.length ≤ 1000000000) (hm : pl.length ≤ 1000000000) (hpo : ∀ p ∈ pl, 0 < p.length) (hp0 : 0 < pl.length) :
    Calls Tryz.prog 93 #[.slice parts.a parts.len parts.cap] w (Ret (RW pl.flatten w)) := by
  refine call93 _ ?_
  unfold sh93
  obtain ⟨i5', h51, h52, h53, h54⟩ := i5
  obtain ⟨ss, hps, hpX, hsl, hsp⟩ := hp
  have hpl : ss.length = parts.len := by have := hps.1; simpa using this
  have hfl := lens_flat pl
  have hfp : 0 < lens pl := by
    obtain ⟨p, r, rfl⟩ : ∃ p r, pl = p :: r := by cases pl with
      | nil => simp at hp0
      | cons p r => exact ⟨p, r, rfl⟩
    have := hpo p List.mem_cons_self
    simp only [lens, List.map_cons, List.sum_cons]; omega
  refine ⟨fun l w' => match l with | [.i _ s, .i _ x] => ∃ k : Nat, x = (k : Int) ∧ k ≤ pl.length ∧ s = (lens (pl.take k) : Nat) ∧ w' = w | _ => False, fun l _ => match l with | [.i _ _, .i _ x] => (pl.length - x).toNat | _ => 0, ⟨0, rfl, by omega, by simp [lens], rfl⟩, ?_⟩
  rintro s x w1 ⟨k, rfl, hk, rfl, rfl⟩
  refine condK_i (fun hlt => ?_) fun hge => ?_
  · have hlt : k < ss.length := by have := hlt; simp at this; omega
    obtain ⟨a, ea, hr⟩ := rd_slc hps hlt
    have hlk := lens_take (l := pl) (k := k) (by omega)
    have hle := lens_le (l := pl) (k + 1)
    obtain ⟨hs1, hs2⟩ := hsp k hlt (by omega)
    have hl1 := rd_len8 hs1
    refine ⟨⟨by omega, by omega⟩, ?_⟩
    rw [ea]
    refine ⟨ss[k], hr, ?_⟩
    have ew : IntKind.i64.wrap ((lens (pl.take k) : Nat) + (ss[k].len : Int)) = ((lens (pl.take (k + 1)) : Nat) : Int) := by rw [wrap_i64 (by omega)]; omega
    rw [ew, wrap_i64 (e := (k : Int) + 1) (by omega)]
    exact condK_i (fun h => by simp at h; omega) fun _ => ⟨⟨k + 1, by omega, by omega, rfl, rfl⟩, by (try simp only []); omega⟩
  · have hkk : k = pl.length := by have := hge; simp at this; omega
    subst hkk
    rw [List.take_length]
    refine callK_ret (c_grow0W (by omega) hfp) ?_
    rintro v w2 ⟨x, rfl, ho, hf, hm2⟩
    refine ⟨x, rfl, ?_⟩
    refine ⟨fun l w' => match l with | [.sl s, .i _ x] => ∃ k : Nat, x = (k : Int) ∧ k ≤ pl.length ∧ Row0 5 w' s (bys (pl.take k).flatten) ∧ FB w1 s ∧ Mod NoB w1 w' | _ => False, fun l _ => match l with | [.sl _, .i _ x] => (pl.length - x).toNat | _ => 0, ⟨0, rfl, by omega, by simpa using ho, hf, hm2⟩, ?_⟩
    rintro s y w3 ⟨k, rfl, hk, ho3, hf3, hm3⟩
    refine condK_i (fun hlt => ?_) fun hge => ?_
    · have hlt : k < ss.length := by have := hlt; simp at this; omega
      obtain ⟨a, ea, hr⟩ := rd_slc (hps.no hm3) hlt
      obtain ⟨hs1, hs2⟩ := hsp k hlt (by omega)
      have hl1 := rd_len8 hs1
      have hlk := lens_take (l := pl) (k := k) (by omega)
      have hle := lens_le (l := pl) (k + 1)
      have hl3 := rd_len8 ho3.own.rd
      rw [lens_flat] at hl3
      have hpk := hpo pl[k] (List.getElem_mem _)
      refine ⟨⟨by omega, by omega⟩, ?_⟩
      rw [ea]
      refine ⟨ss[k], hr, ?_⟩
      rw [wrap_i64 (e := (k : Int) + 1) (by omega)]
      refine sem_append_row u26 h51 h52 h53 rfl h54 ho3 (hs1.no hm3) (bys_one _) (by omega) (by omega) (by omega) fun s' w4 ho4 hlen hblk hm4 => ⟨s', rfl, ⟨k + 1, by omega, by omega, ?_, hf3.step hm3.size hblk, hf3.mod hm3 hm4⟩, by (try simp only []); omega⟩
      rw [take_snoc (show k < pl.length by omega), List.flatten_append, bys_app]
      simpa using ho4
    · have hkk : k = pl.length := by have := hge; simp at this; omega
      subst hkk
      rw [List.take_length] at ho3
      exact ⟨s, rfl, ho3, hf3, hm3⟩
end
def numF (pl : List (List UInt8)) : List UInt8 := redT (sha pl.flatten)
theorem redT_len {l : List UInt8} (h : l.length ≤ 64) : (redT l).length = 32 := by rw [redT, if_neg (by omega)]; simp
theorem numF_len (pl : List (List UInt8)) : (numF pl).length = 32 := redT_len (by rw [sha_len']; exact Nat.le_refl _)
theorem c_numberF {w : World} {first parts : Slc} {f : List UInt8} {ss : List Slc} {pl : List (List UInt8)} (hg : GS w) (hf : SlRd w first 1 (bys f)) (hfl : ∀ z, first.blk = some z → z < w.heap.size) (hp : SlRd w parts 1 (vals ss)) (hpl : ∀ z, parts.blk = some z → z < w.heap.size) (hsl : ss.length = pl.length)
    (hss : ∀ i (h : i < ss.length) (h' : i < pl.length), SlRd w ss[i] 1 (bys pl[i]) ∧ ∀ z, ss[i].blk = some z → z < w.heap.size) (hn : f.length + pl.flatten.length ≤ 800000000) (hm : pl.length ≤ 1000000) :
    Calls Tryz.prog 92 #[.slice first.a first.len first.cap, .slice parts.a parts.len parts.cap] w (Ret (RW (numF (f :: pl)) w)) := by
  refine call92 _ _ ?_
  unfold sh92
  refine callK_ret (c_cloneR hp (by omega)) ?_
  rintro v w1 ⟨s1, rfl, ho1, hb1, hm1⟩
  refine ⟨s1, rfl, ?_⟩
  refine sem_rows [first] rfl rfl (by omega) (by omega) fun x vb w2 hN2 ex hB2 hx2 => ⟨x, rfl, ?_⟩
  subst ex
  have hvb := hN2.at_
  refine callK_ret (c_ins0 (y := first) (ho1.no hN2.mod) hN2.get (fun z hz e => by have := ho1.lt hz; omega) (by omega)) ?_
  rintro v w3 ⟨s3, rfl, ho3, hb3, hm3⟩
  have hM3 : Mod NoB w w3 := (hm1.tr hN2.mod).fresh hm3 fun z hz => hb1 z hz
  refine ⟨s3, rfl, ?_⟩
  have hX : ∀ z, s3.blk = some z → z < w3.heap.size := fun z hz => ho3.lt hz
  refine callK_ret (c_sum (pl := f :: pl) (X := fun z => z < w3.heap.size) (hg.no hM3).sha ⟨first :: ss, ho3.rd, hX, by simp [hsl], fun i hi hi' => ?_⟩ (fun _ h => h) (by rw [List.flatten_cons, List.length_append]; omega) (by simp; omega)) ?_
  · cases i with
    | zero => exact ⟨hf.no hM3, fun z hz => Nat.lt_of_lt_of_le (hfl z hz) hM3.size⟩
    | succ i => exact ⟨(hss i (by simpa using hi) (by simpa using hi')).1.no hM3, fun z hz => Nat.lt_of_lt_of_le ((hss i (by simpa using hi) (by simpa using hi')).2 z hz) hM3.size⟩
  rintro v w4 ⟨d, rfl, ho4, hb4, hm4⟩
  refine ⟨d, rfl, ?_⟩
  refine callK_ret (c_reduceW ho4.rd fun z hz => ho4.lt hz) ?_
  rintro v w5 ⟨r, rfl, ho5, hb5, hm5⟩
  exact ⟨r, rfl, r, rfl, ho5, hb5.le (hM3.tr hm4).size, (hM3.tr hm4).tr hm5⟩
theorem c_howF {w : World} {point pub parts : Slc} {f g : List UInt8} {ss : List Slc} {pl : List (List UInt8)} (hg : GS w) (hf : SlRd w point 1 (bys f)) (hfl : ∀ z, point.blk = some z → z < w.heap.size) (hq : SlRd w pub 1 (bys g)) (hql : ∀ z, pub.blk = some z → z < w.heap.size) (hp : SlRd w parts 1 (vals ss)) (hpl : ∀ z, parts.blk = some z → z < w.heap.size) (hsl : ss.length = pl.length)
    (hss : ∀ i (h : i < ss.length) (h' : i < pl.length), SlRd w ss[i] 1 (bys pl[i]) ∧ ∀ z, ss[i].blk = some z → z < w.heap.size) (hn : f.length + g.length + pl.flatten.length ≤ 800000000) (hm : pl.length ≤ 100000) :
    Calls Tryz.prog 95 #[.slice point.a point.len point.cap, .slice pub.a pub.len pub.cap, .slice parts.a parts.len parts.cap] w (Ret (RW (numF (f :: g :: pl)) w)) := by
  refine call95 _ _ _ ?_
  unfold sh95
  refine callK_ret (c_cloneR hp (by omega)) ?_
  rintro v w1 ⟨s1, rfl, ho1, hb1, hm1⟩
  refine ⟨s1, rfl, ?_⟩
  refine sem_rows [pub] rfl rfl (by omega) (by omega) fun x vb w2 hN2 ex hB2 hx2 => ⟨x, rfl, ?_⟩
  subst ex
  have hvb := hN2.at_
  refine callK_ret (c_ins0 (y := pub) (ho1.no hN2.mod) hN2.get (fun z hz e => by have := ho1.lt hz; omega) (by omega)) ?_
  rintro v w3 ⟨s3, rfl, ho3, hb3, hm3⟩
  have hM3 : Mod NoB w w3 := (hm1.tr hN2.mod).fresh hm3 fun z hz => hb1 z hz
  refine ⟨s3, rfl, ?_⟩
  refine callW (c_numberF (pl := g :: pl) (ss := pub :: ss) (hg.no hM3) (hf.no hM3) (fun z hz => Nat.lt_of_lt_of_le (hfl z hz) hM3.size) ho3.rd (fun z hz => ho3.lt hz) (by simp [hsl]) (fun i hi hi' => ?_) (by rw [List.flatten_cons, List.length_append]; omega) (by simp; omega)) fun x w4 h1 h3 h4 => ⟨x, rfl, h1, h3.le hM3.size, hM3.tr h4⟩
  cases i with
  | zero => exact ⟨hq.no hM3, fun z hz => Nat.lt_of_lt_of_le (hql z hz) hM3.size⟩
  | succ i => exact ⟨(hss i (by simpa using hi) (by simpa using hi')).1.no hM3, fun z hz => Nat.lt_of_lt_of_le ((hss i (by simpa using hi) (by simpa using hi')).2 z hz) hM3.size⟩
noncomputable def mulF (r : List UInt8) : List UInt8 := putP (mulB baseP (bitsT r))
noncomputable def sigF (l : List UInt8) (pl : List (List UInt8)) : List UInt8 :=
  mulF (numF (drwB l :: pl)) ++ mulT (numF (mulF (numF (drwB l :: pl)) :: pubF l :: pl)) (secB l) (numF (drwB l :: pl))
theorem c_SignF {w : World} {seed text : Slc} {l : List UInt8} {ss : List Slc} {pl : List (List UInt8)} (hg : GS w) (hs : SlRd w seed 1 (bys l)) (hsl : ∀ z, seed.blk = some z → z < w.heap.size) (hl : l.length = 32)
    (hp : SlRd w text 1 (vals ss)) (hpl : ∀ z, text.blk = some z → z < w.heap.size) (hsl2 : ss.length = pl.length)
    (hss : ∀ i (h : i < ss.length) (h' : i < pl.length), SlRd w ss[i] 1 (bys pl[i]) ∧ ∀ z, ss[i].blk = some z → z < w.heap.size) (hn : pl.flatten.length ≤ 700000000) (hm : pl.length ≤ 10000) :
    Calls Tryz.prog 49 #[.slice seed.a seed.len seed.cap, .slice text.a text.len text.cap] w (Ret (RW (sigF l pl) w)) := by
  refine call49 _ _ ?_
  unfold sh49
  refine callK_ret (c_openF hg hs hsl hl) ?_
  rintro v w1 ⟨o, rfl, hO, hm1⟩
  refine ⟨_, _, rfl, condK_i (fun h => by simp at h) fun _ => ?_⟩
  obtain ⟨⟨ps, sc, dr, T, h1, h0, hB, hsr, hdr, hsb, hdb⟩, hno⟩ := id hO
  have hsl' : (secB l).length = 32 := by simp [secB, clampB, sha_len']
  have hdl' : (drwB l).length = 32 := by simp [drwB, clampB, sha_len']
  have hss1 : ∀ {w' : World}, Mod NoB w w' → ∀ i (h : i < ss.length) (h' : i < pl.length), SlRd w' ss[i] 1 (bys pl[i]) ∧ ∀ z, ss[i].blk = some z → z < w'.heap.size := fun hm i h h' => ⟨(hss i h h').1.no hm, fun z hz => Nat.lt_of_lt_of_le ((hss i h h').2 z hz) hm.size⟩
  have hlt : ∀ {w' : World} {x : Slc}, Mod NoB w w' → (∀ z, x.blk = some z → z < w.heap.size) → ∀ z, x.blk = some z → z < w'.heap.size := fun hm h z hz => Nat.lt_of_lt_of_le (h z hz) hm.size
  have hr21 : ∀ {w' : World}, Mod NoB w1 w' → Rd w' ((⟨o, 0, none⟩ : Addr).add 21) [dr.val] ∧ Rd w' ((⟨o, 0, none⟩ : Addr).add 20) [sc.val] := fun hm => by
    rw [addl, addl]
    exact ⟨(hB.no hm).rd1 (by rw [List.getElem?_append_right (by simp [h1])]; simp [h1]), (hB.no hm).rd1 (by rw [List.getElem?_append_right (by simp [h1])]; simp [h1])⟩
  refine ⟨dr, (hr21 (Mod.refl _ _)).1, ?_⟩
  refine callW (c_numberF (hg.no hm1) hdr (fun z hz => (hdb z hz).2) (hp.no hm1) (hlt hm1 hpl) hsl2 (hss1 hm1) (by omega) (by omega)) fun x1 w2 ho1 hf1 hm2 => ?_
  have hM2 := hm1.tr hm2
  refine callK_ret (c_BaseF (hg.no hM2).ge) ?_
  rintro v w3 ⟨bl, hbl1, hbl2, rfl, hm3⟩
  obtain ⟨x0, x1', x2, x3, x4, x5, x6, x7, x8, x9, x10, x11, x12, x13, x14, x15, x16, x17, x18, x19, rfl⟩ := lst20 hbl1
  refine ⟨_, _, _, _, _, _, _, _, _, _, _, _, _, _, _, _, _, _, _, _, rfl, ?_⟩
  have hM3 := hM2.tr hm3
  have ho3 := row0_no ho1 hm3
  have hc := c_eMulF (l := numF (drwB l :: pl)) (hg.no hM3).ge ho3.own.rd (fun z hz => ho3.own.lt hz) hbl2
  refine callK_ret hc ?_
  clear hc
  rintro v w4 ⟨kl, hk1, hk2, rfl, hm4⟩
  obtain ⟨y0, y1, y2, y3, y4, y5, y6, y7, y8, y9, y10, y11, y12, y13, y14, y15, y16, y17, y18, y19, rfl⟩ := lst20 hk1
  refine ⟨_, _, _, _, _, _, _, _, _, _, _, _, _, _, _, _, _, _, _, _, rfl, ?_⟩
  have hM4 := hM3.tr hm4
  have hc := c_ePutF (w := w4) (hg.no hM4).ge hk2
  refine callK_ret hc ?_
  clear hc
  generalize hR : putP (mulB baseP (bitsT (numF (drwB l :: pl)))) = l2
  have hl2 : l2.length = 32 := by rw [← hR]; exact putP_len _
  rintro v w5 ⟨b2, T5, rfl, hb2, hs2, hm5⟩
  rw [hl2]
  have hM5 := hM4.tr hm5
  have hM15 : Mod NoB w1 w5 := ((hm2.tr hm3).tr hm4).tr hm5
  refine ⟨⟨some ⟨b2, 0, none⟩, 32, 32⟩, rfl, Mod NoB w5.drew, Mod.refl _ _, ?_⟩
  have hd5 : Mod NoB w5 w5.drew := Mod.drew _ _
  refine ⟨sc, fun w' hm => (hr21 ((hM15.tr hd5).tr hm)).2, ?_, trivial⟩
  refine callK_ret (c_publicF (hg.no (hM5.tr hd5)).ge (hO.no (hM15.tr hd5))) ?_
  rintro v w6 ⟨b4, T6, rfl, hb4, hs4, hm6⟩
  rw [pubF_len]
  have hM6 := (hM5.tr hd5).tr hm6
  refine ⟨⟨some ⟨b4, 0, none⟩, 32, 32⟩, rfl, hm6, ?_, trivial⟩
  have hx2 : SlRd w6 ⟨some ⟨b2, 0, none⟩, 32, 32⟩ 1 (bys l2) := (own_whole (n := 32) (k := 1) (hb2.no (hd5.tr hm6)) (by simp [bys, hl2])).rd
  have hx4 : SlRd w6 ⟨some ⟨b4, 0, none⟩, 32, 32⟩ 1 (bys (pubF l)) := (own_whole (n := 32) (k := 1) hb4 (by simp [bys, pubF_len])).rd
  have hb2' := (hb2.no (hd5.tr hm6)).lt
  have hb4' := hb4.lt
  have hbk : ∀ {b z : Nat}, Slc.blk ⟨some ⟨b, 0, none⟩, 32, 32⟩ = some z → z = b := fun hz => by rw [Slc.blk_mk] at hz; simp at hz; exact hz.symm
  refine callW (c_howF (hg.no hM6) hx2 (fun z hz => by rw [hbk hz]; exact hb2') hx4 (fun z hz => by rw [hbk hz]; exact hb4') (hp.no hM6) (hlt hM6 hpl) hsl2 (hss1 hM6) (by rw [hl2, pubF_len]; omega) (by omega)) fun x5 w7 ho5 hf5 hm7 => ?_
  have hM7 := hM6.tr hm7
  refine ⟨hm6.tr hm7, ?_, trivial⟩
  have hM17 : Mod NoB w1 w7 := ((hM15.tr hd5).tr hm6).tr hm7
  have ho17 := row0_no ho1 ((((hm3.tr hm4).tr hm5).tr hd5).tr (hm6.tr hm7))
  have hc := c_mulAdd ho5.own.rd (fun z hz => ho5.own.lt hz) (hsr.no hM17) (fun z hz => Nat.lt_of_lt_of_le (hsb z hz).2 hM17.size) ho17.own.rd (fun z hz => ho17.own.lt hz)
  refine callK_ret hc ?_
  clear hc
  rintro v w8 ⟨x6, rfl, ho6, hc6, hf6, hm8⟩
  have hl6 : (mulT (numF (l2 :: pubF l :: pl)) (secB l) (numF (drwB l :: pl))).length = 32 := by rw [mulT, if_pos ⟨numF_len _, hsl', numF_len _⟩]; simp
  have hfin : sigF l pl = [l2, mulT (numF (l2 :: pubF l :: pl)) (secB l) (numF (drwB l :: pl))].flatten := by simp [sigF, mulF, hR]
  rw [hfin]
  generalize mulT (numF (l2 :: pubF l :: pl)) (secB l) (numF (drwB l :: pl)) = l6 at *
  refine ⟨x6, rfl, ?_, trivial⟩
  have hM8 := hM7.tr hm8
  refine sem_rows [⟨some ⟨b2, 0, none⟩, 32, 32⟩, x6] rfl rfl (by omega) (by omega) fun x vb w9 hN9 ex hB9 hx9 => ⟨x, rfl, ?_⟩
  have hM9 := hM8.tr hN9.mod
  refine ⟨((hm6.tr hm7).tr hm8).tr hN9.mod, ?_, trivial⟩
  have hx29 : SlRd w9 ⟨some ⟨b2, 0, none⟩, 32, 32⟩ 1 (bys l2) := hx2.no ((hm7.tr hm8).tr hN9.mod)
  have hb29 : b2 < w9.heap.size := Nat.lt_of_lt_of_le hb2' ((hm7.tr hm8).tr hN9.mod).size
  refine callK_ret (c_concatW (pl := [l2, l6]) (X := fun z => z < w9.heap.size) ⟨_, hx9.rd, fun z hz => hx9.lt hz, rfl, rows2 hx29 (fun z hz => by rw [hbk hz]; exact hb29) (ho6.no hN9.mod).rd (fun z hz => (ho6.no hN9.mod).lt hz)⟩ (fun _ h => h) (by simp [hl2, hl6]) (by simp) (fun p hp => by simp at hp; rcases hp with rfl | rfl <;> omega) (by simp)) ?_
  rintro v w10 ⟨x8, rfl, ho8, hf8, hm10⟩
  refine ⟨x8, rfl, (((hm6.tr hm7).tr hm8).tr hN9.mod).tr hm10, x8, rfl, ho8, hf8.le hM9.size, hM9.tr hm10⟩
theorem inv_new {S0 : Nat → Prop} {w0 w w' : World} {ρ : Lab} {h : Hp} (hi : Inv S0 w0 ρ h w) {o : XO} {b s : Nat} (hb : w.heap.size ≤ b) (hm : Mod NoB w w') (ho : ObjOk (fun L => if L = h.n then some (b, s) else ρ L) w' b s o) :
    Inv S0 w0 (fun L => if L = h.n then some (b, s) else ρ L) ⟨h.t.set (some o) h.n, Nat.succ h.n⟩ w' ∧ Lab.le ρ (fun L => if L = h.n then some (b, s) else ρ L) := by
  have hle : Lab.le ρ (fun L => if L = h.n then some (b, s) else ρ L) := fun L x e => by
    by_cases hL : L = h.n
    · subst hL; rw [hi.fresh _ (Nat.le_refl _)] at e; cases e
    · simp [hL, e]
  refine ⟨⟨fun L hL => ?_, fun L o' e => ?_, fun L L' o1 o2 b1 s1 s2 e1 e2 e3 e4 => ?_, hi.mod.no' hm⟩, hle⟩
  · have : L ≠ h.n := by simp only [] at hL; omega
    simp only [this, ↓reduceIte]
    exact hi.fresh L (by simp only [] at hL; omega)
  · rw [Tr.get_set] at e
    by_cases hL : L = h.n
    · rw [if_pos hL] at e; cases e
      exact ⟨b, s, by simp [hL], ho, .inr (Nat.le_trans hi.mod.size hb)⟩
    · rw [if_neg hL] at e
      obtain ⟨b', s', h1, h2, h3⟩ := hi.dom L o' e
      exact ⟨b', s', by simp [hL, h1], (h2.no hm).le hle, h3⟩
  · have old : ∀ L o, h.t.get L = some o → ∀ s, ρ L ≠ some (b, s) := fun L o e s hr => by
      obtain ⟨b', s', h1, h2, h3⟩ := hi.dom L o e
      rw [hr] at h1; cases h1
      have := h2.lt
      omega
    rw [Tr.get_set] at e1 e2
    by_cases hL : L = h.n <;> by_cases hL' : L' = h.n
    · rw [hL, hL']
    · exfalso
      rw [if_neg hL'] at e2
      simp only [hL, hL', ↓reduceIte, Option.some.injEq, Prod.mk.injEq] at e3 e4
      rw [← e3.1] at e4
      exact old _ _ e2 _ e4
    · exfalso
      rw [if_neg hL] at e1
      simp only [hL, hL', ↓reduceIte, Option.some.injEq, Prod.mk.injEq] at e3 e4
      rw [← e4.1] at e3
      exact old _ _ e1 _ e3
    · rw [if_neg hL] at e1; rw [if_neg hL'] at e2
      simp only [hL, hL', ↓reduceIte] at e3 e4
      exact hi.inj L L' o1 o2 b1 s1 s2 e1 e2 e3 e4
noncomputable def newRow (h : Hp) (l : List XV) : Hp := ⟨h.t.set (some (.row l)) h.n, Nat.add h.n 1⟩
def RX (us : List Value) (w : World) (v : Value) (w' : World) : Prop := ∃ (x : Slc) (T : TypeId), v = x.val ∧ Row0 T w' x us ∧ FB w x ∧ Mod NoB w w'
theorem row_call {f : FuncId} {xs cs : List XV} {us : List Value} {h : Hp} (hus : ∀ ρ, XRs ρ cs us) (hpos : 0 < us.length)
    (hc : ∀ (S0 : Nat → Prop) (w0 : World) (ρ : Lab) (w : World) (vs : List Value), GS w → Inv S0 w0 ρ h w → XRs ρ xs vs → Calls Tryz.prog f vs.toArray w (Ret (RX us w))) :
    CallOk Tryz.prog GS f xs h (.slu h.n 0 (len cs) 1) (newRow h cs) := by
  intro S0 w0 ρ w vs hG hi hvs
  refine Calls.mono (hc S0 w0 ρ w vs (hG w hi.mod) hi hvs) fun e w' he => ?_
  cases e <;> first | exact he.elim | skip
  obtain ⟨x, T, rfl, hr, hf, hm⟩ := he
  rcases hr with ⟨_, rfl⟩ | ⟨g, n, c, l, rfl, hc0, hb, h1, h2, h3⟩
  · simp at hpos
  have hlen : us.length = n := by rw [← h2, List.length_take]; omega
  have hcs : cs.length = n := by rw [← hlen]; exact ((hus ρ).len).symm
  have hg : w.heap.size ≤ g := hf g (by rw [Slc.blk_mk, if_neg (by omega)])
  have hob : ObjOk (fun L => if L = h.n then some (g, c) else ρ L) w' g c (.row cs) := by
    refine ⟨us, l.drop n, T, hus _, ?_, ?_⟩
    · rw [← h2, List.take_append_drop]; exact hb
    · rw [← h2, List.take_append_drop]; exact h1
  obtain ⟨i1, i2⟩ := inv_new hi hg hm hob
  refine ⟨_, _, rfl, Lab.up_new i2, ?_, i1⟩
  simp only [XR]
  exact ⟨g, c, c, by simp, by simp [Slc.val, len_eq, hcs], by omega, by rw [len_eq, hcs]; exact h3, by omega⟩
theorem XRs_mapB {ρ : Lab} : ∀ {l : List Nat}, (∀ b ∈ l, b < 256) → XRs ρ (mapB l) (bys (toB l))
  | [], _ => rfl
  | a :: l, hl => by
    show XRs ρ (u8 a :: mapB l) _
    simp only [XRs]
    refine ⟨.int .u8 a, bys (toB l), ?_, ?_, XRs_mapB fun b hb => hl b (List.mem_cons_of_mem _ hb)⟩
    · have : (UInt8.ofNat a).toNat = a := by
        rw [UInt8.toNat_ofNat']
        have := hl a List.mem_cons_self
        omega
      simp [bys, toB, this]
    · simp only [XR]; rfl
theorem rdSl_at {S0 : Nat → Prop} {w0 w : World} {ρ : Lab} {h : Hp} (hi : Inv S0 w0 ρ h w) {x : XV} {k n : Nat} {cs : List XV} (hr : rdSl h x k = some (n, cs)) {v : Value} (hx : XR ρ x v) :
    ∃ (s : Slc) (vs : List Value), v = .slice s.a s.len s.cap ∧ XRs ρ cs vs ∧ SlRd w s k vs ∧ ∀ z, s.blk = some z → z < w.heap.size := by
  unfold rdSl at hr
  split at hr
  · next n' c =>
    obtain ⟨h1, hr⟩ := br_some hr
    cases hr
    have := Nat.eq_of_beq_eq_true h1
    subst this
    simp only [XR] at hx
    exact ⟨⟨none, 0, c⟩, [], hx, rfl, ⟨by simp, by simp, .inl rfl⟩, fun z hz => by simp [Slc.blk] at hz⟩
  · next L o n' c =>
    obtain ⟨h1, hr⟩ := br_some hr
    have h1 := Nat.le_of_ble_eq_true h1
    obtain ⟨l, h2, hr⟩ := onO_some hr
    obtain ⟨h3, hr⟩ := br_some hr
    cases hr
    rw [tk_eq, dr_eq] at *
    have h3 := Nat.eq_of_beq_eq_true h3
    rw [len_eq] at h3
    obtain ⟨ob, b, s, vs, rest, T, g1, g2, g3, g4, _⟩ := hi.row h2
    simp only [XR] at hx
    obtain ⟨b', s', e1, rfl⟩ := hx
    rw [g2] at e1; cases e1
    have hv := (g3.drop o).take (n * k)
    refine ⟨⟨some ⟨b, o, none⟩, n, c⟩, _, rfl, hv, ⟨by rw [hv.len]; exact h3, h1, .inr ⟨_, rfl, row_rd g4 rfl⟩⟩, fun z hz => ?_⟩
    rw [Slc.blk_mk] at hz
    split at hz
    · cases hz
    · cases hz; exact g4.lt
  · next L o n' k' =>
    obtain ⟨l, h2, hr⟩ := onO_some hr
    obtain ⟨h3, hr⟩ := br_some hr
    cases hr
    rw [tk_eq, dr_eq] at *
    have h3 := Nat.eq_of_beq_eq_true h3
    rw [len_eq] at h3
    obtain ⟨ob, b, s, vs, rest, T, g1, g2, g3, g4, _⟩ := hi.row h2
    simp only [XR] at hx
    obtain ⟨b', s', c, e1, rfl, _, e2, _⟩ := hx
    rw [g2] at e1; cases e1
    have hv := (g3.drop o).take (n * k)
    refine ⟨⟨some ⟨b, o, none⟩, n, c⟩, _, rfl, hv, ⟨by rw [hv.len]; exact h3, e2, .inr ⟨_, rfl, row_rd g4 rfl⟩⟩, fun z hz => ?_⟩
    rw [Slc.blk_mk] at hz
    split at hz
    · cases hz
    · cases hz; exact g4.lt
  · cases hr
noncomputable def bytesOf (h : Hp) (x : XV) : Option (List Nat) := onO (rdSl h x 1) fun q => bytesX q.2
noncomputable def rowsOf (h : Hp) (x : XV) : Option (List (List Nat)) := onO (rdSl h x 1) fun q => mapO (bytesOf h) q.2
def ByAt (w : World) (s : Slc) (l : List UInt8) : Prop := SlRd w s 1 (bys l) ∧ ∀ z, s.blk = some z → z < w.heap.size
section
variable {S0 : Nat → Prop} {w0 w : World} {ρ : Lab} {h : Hp}
theorem bytesOf_ok (hi : Inv S0 w0 ρ h w) {x : XV} {ns : List Nat} (hr : bytesOf h x = some ns) {v : Value} (hx : XR ρ x v) : ∃ s : Slc, v = .slice s.a s.len s.cap ∧ ByAt w s (toB ns) := by
  unfold bytesOf at hr
  obtain ⟨⟨n, cs⟩, h1, h2⟩ := onO_some hr
  obtain ⟨s, vs, e1, e2, e3, e4⟩ := rdSl_at hi h1 hx
  obtain ⟨_, e5⟩ := bytesX_ok h2 e2
  subst e5
  exact ⟨s, e1, e3, e4⟩
theorem rowsOf_aux (hi : Inv S0 w0 ρ h w) : ∀ {cs : List XV} {ts : List (List Nat)} {vs : List Value}, mapO (bytesOf h) cs = some ts → XRs ρ cs vs → ∃ ss : List Slc, vs = vals ss ∧ ss.length = ts.length ∧ ∀ i (h1 : i < ss.length) (h2 : i < (ts.map toB).length), ByAt w ss[i] (ts.map toB)[i]
  | [], ts, vs, hr, hx => by
    rw [mapO_nil] at hr; cases hr
    simp only [XRs] at hx; subst hx
    exact ⟨[], rfl, rfl, fun i h1 => by simp at h1⟩
  | c :: cs, ts, vs, hr, hx => by
    obtain ⟨t, r, rfl, h1, h2⟩ := mapO_cons hr
    simp only [XRs] at hx
    obtain ⟨v, vs', rfl, h3, h4⟩ := hx
    obtain ⟨s, rfl, h5⟩ := bytesOf_ok hi h1 h3
    obtain ⟨ss, rfl, h6, h7⟩ := rowsOf_aux hi h2 h4
    refine ⟨s :: ss, rfl, by simp [h6], fun i h8 h9 => ?_⟩
    cases i with
    | zero => exact h5
    | succ i => exact h7 i (by simpa using h8) (by simpa using h9)
theorem rowsOf_ok (hi : Inv S0 w0 ρ h w) {x : XV} {ts : List (List Nat)} (hr : rowsOf h x = some ts) {v : Value} (hx : XR ρ x v) :
    ∃ (s : Slc) (ss : List Slc), v = .slice s.a s.len s.cap ∧ SlRd w s 1 (vals ss) ∧ (∀ z, s.blk = some z → z < w.heap.size) ∧ ss.length = (ts.map toB).length ∧ ∀ i (h1 : i < ss.length) (h2 : i < (ts.map toB).length), ByAt w ss[i] (ts.map toB)[i] := by
  unfold rowsOf at hr
  obtain ⟨⟨n, cs⟩, h1, h2⟩ := onO_some hr
  obtain ⟨s, vs, e1, e2, e3, e4⟩ := rdSl_at hi h1 hx
  obtain ⟨ss, rfl, h6, h7⟩ := rowsOf_aux hi h2 e2
  exact ⟨s, ss, e1, e3, e4, by simpa using h6, h7⟩
end
noncomputable def eqN (l m : List Nat) : Bool := List.rec (motive := fun _ => List Nat → Bool) (fun m => match m with | [] => true | _ => false) (fun x _ ih m => match m with | [] => false | y :: r => br (Nat.beq x y) (ih r) false) l m
theorem eqN_eq : ∀ {l m : List Nat}, eqN l m = true → l = m
  | [], m, h => by cases m <;> first | rfl | cases h
  | x :: l, m, h => by
    cases m with
    | nil => cases h
    | cons y r =>
      have h : br (Nat.beq x y) (eqN l r) false = true := h
      obtain ⟨h1, h2⟩ := br_and h
      rw [Nat.eq_of_beq_eq_true h1, eqN_eq h2]
noncomputable def eqNN (l m : List (List Nat)) : Bool := List.rec (motive := fun _ => List (List Nat) → Bool) (fun m => match m with | [] => true | _ => false) (fun x _ ih m => match m with | [] => false | y :: r => br (eqN x y) (ih r) false) l m
theorem eqNN_eq : ∀ {l m : List (List Nat)}, eqNN l m = true → l = m
  | [], m, h => by cases m <;> first | rfl | cases h
  | x :: l, m, h => by
    cases m with
    | nil => cases h
    | cons y r =>
      have h : br (eqN x y) (eqNN l r) false = true := h
      obtain ⟨h1, h2⟩ := br_and h
      rw [eqN_eq h1, eqNN_eq h2]
abbrev Tab := List (List (List Nat) × List Nat)
noncomputable def lookX (k : List (List Nat)) (t : Tab) : Option (List Nat) := List.rec (motive := fun _ => Option (List Nat)) none (fun q _ ih => br (eqNN q.1 k) (some q.2) ih) t
theorem look_mem {k : List (List Nat)} {r : List Nat} : ∀ {t : Tab}, lookX k t = some r → (k, r) ∈ t
  | [], h => by cases h
  | q :: t, h => by
    have h : br (eqNN q.1 k) (some q.2) (lookX k t) = some r := h
    cases hb : eqNN q.1 k with
    | true =>
      rw [hb, br_t] at h
      cases h
      rw [← eqNN_eq hb]
      exact List.mem_cons_self
    | false =>
      rw [hb, br_f] at h
      exact List.mem_cons_of_mem _ (look_mem h)
def BOk (r : List Nat) : Prop := (∀ b ∈ r, b < 256) ∧ 0 < r.length
noncomputable def tabC (F : FuncId) (g : List XV → Hp → Option (List (List Nat))) (t : Tab) (f : FuncId) (xs : List XV) (h : Hp) : Option (XV × Hp) :=
  br (Nat.beq f F) (onO (g xs h) fun k => onO (lookX k t) fun r => some (.slu h.n 0 (len (mapB r)) 1, newRow h (mapB r))) none
theorem tabC_ok {F : FuncId} {g : List XV → Hp → Option (List (List Nat))} {t : Tab}
    (ht : ∀ xs h k r, g xs h = some k → (k, r) ∈ t → BOk r ∧ ∀ (S0 : Nat → Prop) (w0 : World) (ρ : Lab) (w : World) (vs : List Value), GS w → Inv S0 w0 ρ h w → XRs ρ xs vs → Calls Tryz.prog F vs.toArray w (Ret (RX (bys (toB r)) w))) :
    ∀ f xs h y h', tabC F g t f xs h = some (y, h') → CallOk Tryz.prog GS f xs h y h' := fun f xs h y h' hr => by
  unfold tabC at hr
  obtain ⟨h1, hr1⟩ := br_some hr
  clear hr
  have := Nat.eq_of_beq_eq_true h1
  subst this
  obtain ⟨k, h2, hr2⟩ := onO_some hr1
  obtain ⟨r, h3, hr3⟩ := onO_some hr2
  cases hr3
  obtain ⟨⟨g1, g2⟩, g3⟩ := ht xs h k r h2 (look_mem h3)
  exact row_call (us := bys (toB r)) (fun ρ => XRs_mapB g1) (by simpa [bys, toB] using g2) g3
noncomputable def key1 (xs : List XV) (h : Hp) : Option (List (List Nat)) := match xs with
  | [x] => onO (bytesOf h x) fun l => some [l]
  | _ => none
noncomputable def key2 (xs : List XV) (h : Hp) : Option (List (List Nat)) := match xs with
  | [x, y] => onO (bytesOf h x) fun l => onO (rowsOf h y) fun m => some (l :: m)
  | _ => none
noncomputable def key3 (xs : List XV) (h : Hp) : Option (List (List Nat)) := match xs with
  | [x, y, z] => onO (bytesOf h x) fun l => onO (bytesOf h y) fun l' => onO (rowsOf h z) fun m => some (l :: l' :: m)
  | _ => none
def PubTab (t : Tab) : Prop := ∀ k r, (k, r) ∈ t → BOk r ∧ ∃ l, k = [l] ∧ l.length = 32 ∧ pubF (toB l) = toB r
def small (m : List (List Nat)) : Prop := (m.map toB).flatten.length ≤ 1000 ∧ m.length ≤ 1000
def SigTab (t : Tab) : Prop := ∀ k r, (k, r) ∈ t → BOk r ∧ ∃ l m, k = l :: m ∧ l.length = 32 ∧ small m ∧ sigF (toB l) (m.map toB) = toB r
def HowTab (t : Tab) : Prop := ∀ k r, (k, r) ∈ t → BOk r ∧ ∃ l l' m, k = l :: l' :: m ∧ l.length ≤ 1000 ∧ l'.length ≤ 1000 ∧ small m ∧ numF (toB l :: toB l' :: m.map toB) = toB r
theorem toB_len (l : List Nat) : (toB l).length = l.length := by simp [toB]
theorem ret_mono {R R' : Value → World → Prop} {f : FuncId} {a : Array Value} {w : World} (h : Calls Tryz.prog f a w (Ret R)) (hR : ∀ v w', R v w' → R' v w') : Calls Tryz.prog f a w (Ret R') :=
  Calls.mono h fun e w' he => by cases e <;> first | exact he.elim | exact hR _ _ he
theorem pubC_ok {t : Tab} (ht : PubTab t) : ∀ f xs h y h', tabC 19 key1 t f xs h = some (y, h') → CallOk Tryz.prog GS f xs h y h' :=
  tabC_ok fun xs h k r hk hm => by
    obtain ⟨hb, l, rfl, h32, hp⟩ := ht k r hm
    refine ⟨hb, fun S0 w0 ρ w vs hg hi hx => ?_⟩
    unfold key1 at hk
    split at hk
    · next x =>
      obtain ⟨l', h1, hk⟩ := onO_some hk
      cases hk
      simp only [XRs] at hx
      obtain ⟨v, vs', rfl, h2, rfl⟩ := hx
      obtain ⟨s, rfl, h3, h4⟩ := bytesOf_ok hi h1 h2
      refine ret_mono (c_PublicF hg h3 h4 (by rw [toB_len]; exact h32)) fun v w' ⟨b, T, e1, e2, e3, e4⟩ => ?_
      rw [hp] at e1 e2
      have hl : (toB r).length = r.length := toB_len r
      have hp0 := hb.2
      exact ⟨⟨some ⟨b, 0, none⟩, (toB r).length, (toB r).length⟩, T, e1, .inr ⟨b, _, _, _, rfl, by omega, e2, by simp [bys], List.take_of_length_le (by simp [bys]), Nat.le_refl _⟩, FB.new e3, e4⟩
    · cases hk
theorem sigC_ok {t : Tab} (ht : SigTab t) : ∀ f xs h y h', tabC 49 key2 t f xs h = some (y, h') → CallOk Tryz.prog GS f xs h y h' :=
  tabC_ok fun xs h k r hk hm => by
    obtain ⟨hb, l, m, rfl, h32, hs, hp⟩ := ht k r hm
    refine ⟨hb, fun S0 w0 ρ w vs hg hi hx => ?_⟩
    unfold key2 at hk
    split at hk
    · next x y =>
      obtain ⟨l', h1, hk⟩ := onO_some hk
      obtain ⟨m', h1', hk⟩ := onO_some hk
      cases hk
      simp only [XRs] at hx
      obtain ⟨v, vs', rfl, h2, v', vs'', rfl, h2', rfl⟩ := hx
      obtain ⟨s, rfl, h3, h4⟩ := bytesOf_ok hi h1 h2
      obtain ⟨s', ss, rfl, h5, h6, h7, h8⟩ := rowsOf_ok hi h1' h2'
      have := c_SignF hg h3 h4 (by rw [toB_len]; exact h32) h5 h6 h7 (fun i a b => h8 i a b) (by have := hs.1; omega) (by have := hs.2; simp; omega)
      rw [hp] at this
      exact ret_mono this fun v w' ⟨x, e1, e2⟩ => ⟨x, _, e1, e2⟩
    · cases hk
theorem howC_ok {t : Tab} (ht : HowTab t) : ∀ f xs h y h', tabC 95 key3 t f xs h = some (y, h') → CallOk Tryz.prog GS f xs h y h' :=
  tabC_ok fun xs h k r hk hm => by
    obtain ⟨hb, l, l2, m, rfl, hl, hl2, hs, hp⟩ := ht k r hm
    refine ⟨hb, fun S0 w0 ρ w vs hg hi hx => ?_⟩
    unfold key3 at hk
    split at hk
    · next x y z =>
      obtain ⟨l', h1, hk⟩ := onO_some hk
      obtain ⟨l2', h1', hk⟩ := onO_some hk
      obtain ⟨m', h1'', hk⟩ := onO_some hk
      cases hk
      simp only [XRs] at hx
      obtain ⟨v, vs', rfl, h2, v', vs'', rfl, h2', v2, vs3, rfl, h2'', rfl⟩ := hx
      obtain ⟨s, rfl, h3, h4⟩ := bytesOf_ok hi h1 h2
      obtain ⟨s2, rfl, h3', h4'⟩ := bytesOf_ok hi h1' h2'
      obtain ⟨s', ss, rfl, h5, h6, h7, h8⟩ := rowsOf_ok hi h1'' h2''
      have := c_howF hg h3 h4 h3' h4' h5 h6 h7 (fun i a b => h8 i a b) (by have := hs.1; rw [toB_len, toB_len]; omega) (by have := hs.2; simp; omega)
      rw [hp] at this
      exact ret_mono this fun v w' ⟨x, e1, e2⟩ => ⟨x, _, e1, e2⟩
    · cases hk
noncomputable def boolX (l : List Bool) : List XV := List.rec (motive := fun _ => List XV) [] (fun a _ ih => .bool a :: ih) l
theorem XRs_boolX {ρ : Lab} : ∀ l : List Bool, XRs ρ (boolX l) (bls l)
  | [] => rfl
  | a :: l => by
    show XRs ρ (.bool a :: boolX l) _
    simp only [XRs]
    exact ⟨.bool a, bls l, rfl, by simp only [XR], XRs_boolX l⟩
noncomputable def bitsC (f : FuncId) (xs : List XV) (h : Hp) : Option (XV × Hp) :=
  br (Nat.beq f 138) (match xs with
    | [x] => onO (bytesOf h x) fun l => br (Nat.beq (len l) 32) (some (.slu h.n 0 (len (boolX (bitsT (toB l)))) 1, newRow h (boolX (bitsT (toB l))))) none
    | _ => none) none
theorem bitsC_ok : ∀ f xs h y h', bitsC f xs h = some (y, h') → CallOk Tryz.prog GS f xs h y h' := fun f xs h y h' hr => by
  unfold bitsC at hr
  obtain ⟨h1, hr⟩ := br_some hr
  have := Nat.eq_of_beq_eq_true h1
  subst this
  split at hr
  · next x =>
    obtain ⟨l, h2, hr⟩ := onO_some hr
    obtain ⟨h3, hr⟩ := br_some hr
    cases hr
    have h3 := Nat.eq_of_beq_eq_true h3
    rw [len_eq] at h3
    refine row_call (us := bls (bitsT (toB l))) (fun ρ => XRs_boolX _) (by rw [bitsT, if_pos (by rw [toB_len]; exact h3)]; simp) fun S0 w0 ρ w vs hg hi hx => ?_
    simp only [XRs] at hx
    obtain ⟨v, vs', rfl, h4, rfl⟩ := hx
    obtain ⟨s, rfl, h5, h6⟩ := bytesOf_ok hi h2 h4
    exact ret_mono (c_bitsW h5 h6) fun v w' ⟨x, e1, e2⟩ => ⟨x, _, e1, e2⟩
  · cases hr
noncomputable def rightQ (f : FuncId) (xs : List XV) (h : Hp) : Option XV :=
  br (Nat.beq f 195) (match xs with
    | [x] => onO (bytesOf h x) fun l => some (.bool (decide ((toB l).length = 32 ∧ le (toB l) < LO)))
    | _ => none) none
theorem rightQ_ok {f : FuncId} {xs : List XV} {h : Hp} {y : XV} (hr : rightQ f xs h = some y) : QuietOk Tryz.prog GS f xs h y := by
  unfold rightQ at hr
  obtain ⟨h1, hr⟩ := br_some hr
  have := Nat.eq_of_beq_eq_true h1
  subst this
  split at hr
  · next x =>
    obtain ⟨l, h2, hr⟩ := onO_some hr
    cases hr
    intro S0 w0 ρ w vs hG hi hx
    simp only [XRs] at hx
    obtain ⟨v, vs', rfl, h4, rfl⟩ := hx
    obtain ⟨s, rfl, h5, h6⟩ := bytesOf_ok hi h2 h4
    refine Calls.mono (c_right h5 h6) fun e w' he => ?_
    cases e <;> first | exact he.elim | skip
    obtain ⟨rfl, hm⟩ := he
    exact ⟨_, rfl, by simp only [XR], hi.no hm⟩
  · cases hr
theorem callD_any {P : Program} {f : FuncId} {fn : Func} {c : Code} (hf : P.funcs[f]? = some fn) (hb : fn.body = some c) (args : Array Value) (hl : args.size ≤ fn.ntmps) {u : FrameMode} {w : World} {R : Ending → FrameMode → World → Prop}
    (h : denS P fn.ntmps c (ktSOf P fn R) u [] w) : CallsDIn Fence.wide 0 P f args u w R := by
  refine callsDIn_of_wpSIn hf hb trivial fun c0 cs hu => ?_
  have hs : Sim fn.ntmps [] (args ++ Array.replicate (fn.ntmps - args.size) undef) := ⟨by simp; omega, fun t ht => by cases ht⟩
  have hc0 : c0 = { c0 with mode := u } := by subst hu; rfl
  rw [hc0]
  refine wpSIn_mono (denS_wp (c0 := c0) (cs := cs) c _ u _ _ w hs rfl h) ?_
  intro e a cs' w' hq
  cases e with
  | normal =>
    obtain ⟨hd, u', rfl, env, hs', hk⟩ := hq
    have := retK_post (R := fun e w => R e u' w) hs' hk
    exact ⟨hd, u', rfl, this⟩
  | ret =>
    obtain ⟨hd, u', rfl, env, hs', hk⟩ := hq
    have := retK_post (R := fun e w => R e u' w) hs' hk
    exact ⟨hd, u', rfl, this⟩
  | panic c =>
    obtain ⟨hd, u', rfl, hk⟩ := hq
    exact ⟨hd, u', rfl, hk⟩
  | exit i => exact hq.elim
  | goto l => exact hq.elim
  | outgrown => exact hq.elim
theorem d_May {args : Array Value} {w : World} (hl : args.size ≤ 3) : callDK Tryz.prog 52 args .returning w fun u w' => u = .returning ∧ Mod NoB w w' := by
  unfold callDK
  refine callD_any Tryz.func52 (bodyOf_some (by kernel_rfl)) args (Nat.le_trans hl (Nat.le_of_ble_eq_true (by kernel_rfl))) ?_
  show pureSem _ _ _
  refine ⟨.bool false, fun w => rfl, ?_⟩
  show Exists _
  refine ⟨false, ?_⟩
  show And _ _
  refine ⟨rfl, ?_⟩
  show And _ _
  exact ⟨(fun h => (by cases h)), rfl, Mod.refl _ _⟩
theorem d_tried {args : Array Value} {w : World} (hl : args.size ≤ 3) : callDK Tryz.prog 159 args .returning w fun u w' => u = .returning ∧ Mod NoB w w' := by
  unfold callDK
  refine callD_any Tryz.func159 (bodyOf_some (by kernel_rfl)) args (Nat.le_trans hl (Nat.le_of_ble_eq_true (by kernel_rfl))) ?_
  show pureSem _ _ _
  refine ⟨.bool false, fun w => rfl, ?_⟩
  show Exists _
  refine ⟨false, ?_⟩
  show And _ _
  refine ⟨rfl, ?_⟩
  show And _ _
  exact ⟨(fun h => (by cases h)), rfl, Mod.refl _ _⟩
noncomputable def dF (f : FuncId) : Bool := X.br (Nat.beq f 52) true (Nat.beq f 159)
theorem dF_ok : DefFn Tryz.prog dF := fun f hf => by
  unfold dF at hf
  cases h1 : Nat.beq f 52 with
  | true =>
    have := Nat.eq_of_beq_eq_true h1
    subst this
    exact ⟨by kernel_rfl, fun args w hl => d_May hl⟩
  | false =>
    rw [h1, br_f] at hf
    have := Nat.eq_of_beq_eq_true hf
    subst this
    exact ⟨by kernel_rfl, fun args w hl => d_tried hl⟩
abbrev pk11 : List Nat := [102, 190, 126, 51, 44, 122, 69, 51, 50, 189, 157, 10, 127, 125, 176, 85, 245, 197, 239, 26, 6, 173, 166, 109, 152, 179, 159, 182, 129, 12, 71, 58]
theorem pub11 : pubF (toB [11, 11, 11, 11, 11, 11, 11, 11, 11, 11, 11, 11, 11, 11, 11, 11, 11, 11, 11, 11, 11, 11, 11, 11, 11, 11, 11, 11, 11, 11, 11, 11]) = toB pk11 := by kernel_rfl
abbrev pk12 : List Nat := [11, 81, 58, 217, 180, 146, 64, 21, 202, 9, 2, 237, 7, 144, 68, 211, 172, 93, 190, 194, 48, 111, 6, 148, 140, 16, 218, 142, 182, 227, 159, 45]
theorem pub12 : pubF (toB [12, 12, 12, 12, 12, 12, 12, 12, 12, 12, 12, 12, 12, 12, 12, 12, 12, 12, 12, 12, 12, 12, 12, 12, 12, 12, 12, 12, 12, 12, 12, 12]) = toB pk12 := by kernel_rfl
abbrev pk13 : List Nat := [145, 162, 138, 11, 116, 56, 21, 147, 164, 217, 70, 149, 121, 32, 137, 38, 175, 200, 173, 130, 200, 131, 155, 118, 68, 53, 155, 158, 186, 154, 75, 58]
theorem pub13 : pubF (toB [13, 13, 13, 13, 13, 13, 13, 13, 13, 13, 13, 13, 13, 13, 13, 13, 13, 13, 13, 13, 13, 13, 13, 13, 13, 13, 13, 13, 13, 13, 13, 13]) = toB pk13 := by kernel_rfl
abbrev pk14 : List Nat := [11, 238, 245, 169, 230, 121, 230, 163, 225, 52, 254, 39, 131, 123, 255, 50, 199, 203, 95, 93, 68, 234, 9, 188, 176, 229, 66, 186, 214, 164, 192, 204]
theorem pub14 : pubF (toB [14, 14, 14, 14, 14, 14, 14, 14, 14, 14, 14, 14, 14, 14, 14, 14, 14, 14, 14, 14, 14, 14, 14, 14, 14, 14, 14, 14, 14, 14, 14, 14]) = toB pk14 := by kernel_rfl
abbrev pk1 : List Nat := [138, 136, 227, 221, 116, 9, 241, 149, 253, 82, 219, 45, 60, 186, 93, 114, 202, 103, 9, 191, 29, 148, 18, 27, 243, 116, 136, 1, 180, 15, 111, 92]
theorem pub1 : pubF (toB [1, 1, 1, 1, 1, 1, 1, 1, 1, 1, 1, 1, 1, 1, 1, 1, 1, 1, 1, 1, 1, 1, 1, 1, 1, 1, 1, 1, 1, 1, 1, 1]) = toB pk1 := by kernel_rfl
abbrev pk2 : List Nat := [129, 57, 119, 14, 168, 125, 23, 95, 86, 163, 84, 102, 195, 76, 126, 204, 203, 141, 138, 145, 180, 238, 55, 162, 93, 246, 15, 91, 143, 201, 179, 148]
theorem pub2 : pubF (toB [2, 2, 2, 2, 2, 2, 2, 2, 2, 2, 2, 2, 2, 2, 2, 2, 2, 2, 2, 2, 2, 2, 2, 2, 2, 2, 2, 2, 2, 2, 2, 2]) = toB pk2 := by kernel_rfl
abbrev pk3 : List Nat := [237, 73, 40, 198, 40, 209, 194, 198, 234, 233, 3, 56, 144, 89, 149, 97, 41, 89, 39, 58, 92, 99, 249, 54, 54, 193, 70, 20, 172, 135, 55, 209]
theorem pub3 : pubF (toB [3, 3, 3, 3, 3, 3, 3, 3, 3, 3, 3, 3, 3, 3, 3, 3, 3, 3, 3, 3, 3, 3, 3, 3, 3, 3, 3, 3, 3, 3, 3, 3]) = toB pk3 := by kernel_rfl
abbrev sd11 : List Nat := [11, 11, 11, 11, 11, 11, 11, 11, 11, 11, 11, 11, 11, 11, 11, 11, 11, 11, 11, 11, 11, 11, 11, 11, 11, 11, 11, 11, 11, 11, 11, 11]
abbrev tx1 : List Nat := [1, 0, 0, 0, 0, 0, 0, 0, 1, 107, 0, 0, 0, 0, 0, 0, 0, 1, 0, 0, 0, 0, 0, 0, 0, 1, 0, 0, 0, 0, 0, 0, 0, 0, 0, 0, 0, 0, 0, 0, 0, 0, 1, 120]
abbrev sg1 : List Nat := [208, 221, 171, 27, 122, 237, 56, 51, 161, 222, 135, 190, 14, 199, 220, 106, 59, 114, 17, 210, 172, 182, 245, 233, 177, 23, 207, 153, 195, 154, 138, 192, 124, 60, 192, 30, 46, 137, 6, 185, 231, 147, 60, 53, 149, 39, 171, 216, 121, 17, 226, 140, 1, 15, 217, 50, 73, 126, 206, 68, 169, 31, 175, 10]
abbrev rr1 : List Nat := [208, 221, 171, 27, 122, 237, 56, 51, 161, 222, 135, 190, 14, 199, 220, 106, 59, 114, 17, 210, 172, 182, 245, 233, 177, 23, 207, 153, 195, 154, 138, 192]
abbrev hw1 : List Nat := [96, 169, 83, 165, 142, 38, 237, 90, 131, 18, 171, 8, 35, 53, 197, 114, 141, 219, 180, 99, 6, 175, 238, 100, 194, 90, 253, 14, 219, 20, 184, 11]
theorem mul1 : mulF (numF (drwB (toB sd11) :: [toB tx1])) = toB rr1 := by kernel_rfl
theorem how1 : numF (toB rr1 :: toB pk11 :: [toB tx1]) = toB hw1 := by kernel_rfl
theorem sig1 : sigF (toB sd11) [toB tx1] = toB sg1 := by
  unfold sigF
  rw [mul1, pub11, how1]
  kernel_rfl
abbrev tx2 : List Nat := [1, 0, 0, 0, 0, 0, 0, 0, 1, 107, 0, 0, 0, 0, 0, 0, 0, 1, 0, 0, 0, 0, 0, 0, 0, 2, 0, 0, 0, 0, 0, 0, 0, 1, 0, 0, 0, 0, 0, 0, 0, 1, 0, 0, 0, 0, 0, 0, 0, 1, 1, 0, 0, 0, 0, 0, 0, 0, 0]
abbrev sg2 : List Nat := [11, 10, 37, 39, 228, 188, 54, 231, 25, 122, 49, 140, 87, 21, 217, 211, 85, 151, 224, 172, 48, 116, 153, 114, 142, 211, 45, 171, 138, 214, 0, 129, 38, 82, 181, 114, 46, 70, 177, 22, 189, 94, 188, 180, 238, 151, 69, 254, 175, 214, 113, 80, 57, 188, 49, 126, 156, 238, 65, 59, 171, 232, 69, 6]
abbrev rr2 : List Nat := [11, 10, 37, 39, 228, 188, 54, 231, 25, 122, 49, 140, 87, 21, 217, 211, 85, 151, 224, 172, 48, 116, 153, 114, 142, 211, 45, 171, 138, 214, 0, 129]
abbrev hw2 : List Nat := [218, 83, 13, 28, 92, 244, 132, 6, 208, 81, 172, 222, 119, 159, 78, 228, 13, 97, 245, 1, 213, 51, 253, 140, 218, 172, 132, 83, 125, 195, 235, 6]
theorem mul2 : mulF (numF (drwB (toB sd11) :: [toB tx2])) = toB rr2 := by kernel_rfl
theorem how2 : numF (toB rr2 :: toB pk11 :: [toB tx2]) = toB hw2 := by kernel_rfl
theorem sig2 : sigF (toB sd11) [toB tx2] = toB sg2 := by
  unfold sigF
  rw [mul2, pub11, how2]
  kernel_rfl
noncomputable def pubTab : Tab := [([[1, 1, 1, 1, 1, 1, 1, 1, 1, 1, 1, 1, 1, 1, 1, 1, 1, 1, 1, 1, 1, 1, 1, 1, 1, 1, 1, 1, 1, 1, 1, 1]], pk1), ([[2, 2, 2, 2, 2, 2, 2, 2, 2, 2, 2, 2, 2, 2, 2, 2, 2, 2, 2, 2, 2, 2, 2, 2, 2, 2, 2, 2, 2, 2, 2, 2]], pk2), ([[3, 3, 3, 3, 3, 3, 3, 3, 3, 3, 3, 3, 3, 3, 3, 3, 3, 3, 3, 3, 3, 3, 3, 3, 3, 3, 3, 3, 3, 3, 3, 3]], pk3), ([[11, 11, 11, 11, 11, 11, 11, 11, 11, 11, 11, 11, 11, 11, 11, 11, 11, 11, 11, 11, 11, 11, 11, 11, 11, 11, 11, 11, 11, 11, 11, 11]], pk11), ([[12, 12, 12, 12, 12, 12, 12, 12, 12, 12, 12, 12, 12, 12, 12, 12, 12, 12, 12, 12, 12, 12, 12, 12, 12, 12, 12, 12, 12, 12, 12, 12]], pk12), ([[13, 13, 13, 13, 13, 13, 13, 13, 13, 13, 13, 13, 13, 13, 13, 13, 13, 13, 13, 13, 13, 13, 13, 13, 13, 13, 13, 13, 13, 13, 13, 13]], pk13), ([[14, 14, 14, 14, 14, 14, 14, 14, 14, 14, 14, 14, 14, 14, 14, 14, 14, 14, 14, 14, 14, 14, 14, 14, 14, 14, 14, 14, 14, 14, 14, 14]], pk14)]
theorem pubTab_ok : PubTab pubTab := fun k r h => by
  simp only [pubTab, List.mem_cons, Prod.mk.injEq, List.mem_nil_iff, or_false] at h
  rcases h with ⟨rfl, rfl⟩ | ⟨rfl, rfl⟩ | ⟨rfl, rfl⟩ | ⟨rfl, rfl⟩ | ⟨rfl, rfl⟩ | ⟨rfl, rfl⟩ | ⟨rfl, rfl⟩
  · exact ⟨⟨by decide, by decide⟩, _, rfl, rfl, pub1⟩
  · exact ⟨⟨by decide, by decide⟩, _, rfl, rfl, pub2⟩
  · exact ⟨⟨by decide, by decide⟩, _, rfl, rfl, pub3⟩
  · exact ⟨⟨by decide, by decide⟩, _, rfl, rfl, pub11⟩
  · exact ⟨⟨by decide, by decide⟩, _, rfl, rfl, pub12⟩
  · exact ⟨⟨by decide, by decide⟩, _, rfl, rfl, pub13⟩
  · exact ⟨⟨by decide, by decide⟩, _, rfl, rfl, pub14⟩
noncomputable def sigTab : Tab := [([sd11, tx1], sg1), ([sd11, tx2], sg2)]
theorem sigTab_ok : SigTab sigTab := fun k r h => by
  simp only [sigTab, List.mem_cons, Prod.mk.injEq, List.mem_nil_iff, or_false] at h
  rcases h with ⟨rfl, rfl⟩ | ⟨rfl, rfl⟩
  · exact ⟨⟨by decide, by decide⟩, _, _, rfl, rfl, ⟨by decide, by decide⟩, sig1⟩
  · exact ⟨⟨by decide, by decide⟩, _, _, rfl, rfl, ⟨by decide, by decide⟩, sig2⟩
noncomputable def howTab : Tab := [([rr1, pk11, tx1], hw1), ([rr2, pk11, tx2], hw2)]
theorem howTab_ok : HowTab howTab := fun k r h => by
  simp only [howTab, List.mem_cons, Prod.mk.injEq, List.mem_nil_iff, or_false] at h
  rcases h with ⟨rfl, rfl⟩ | ⟨rfl, rfl⟩
  · exact ⟨⟨by decide, by decide⟩, _, _, _, rfl, by decide, by decide, ⟨by decide, by decide⟩, how1⟩
  · exact ⟨⟨by decide, by decide⟩, _, _, _, rfl, by decide, by decide, ⟨by decide, by decide⟩, how2⟩
theorem GS_GE : ∀ w, GS w → GE w := fun w h => h.ge
theorem x_pow3 (a : F5) : resV (runE 234 [a.v, .int .i64 252, .int .u64 3] ⟨.lf, 0⟩) = some (fpow a 3 252 ⟨1, 0, 0, 0, 0⟩).v := by kernel_rfl
theorem x_pow5 (a : F5) : resV (runE 234 [a.v, .int .i64 253, .int .u64 5] ⟨.lf, 0⟩) = some (fpow a 5 253 ⟨1, 0, 0, 0, 0⟩).v := by kernel_rfl
noncomputable def powQ (f : FuncId) (xs : List XV) : Option XV := br (Nat.beq f 234) (match xs with
  | [x, n, m] => br (sameX n (.int .i64 252)) (br (sameX m (.int .u64 3)) (un5 (fun a => fpow a 3 252 ⟨1, 0, 0, 0, 0⟩) [x]) none) (br (sameX n (.int .i64 253)) (br (sameX m (.int .u64 5)) (un5 (fun a => fpow a 5 253 ⟨1, 0, 0, 0, 0⟩) [x]) none) none)
  | _ => none) none
theorem dry_3 (a : F5) (n m : Int) : DryA [a.v, .int .i64 n, .int .u64 m] := fun _ => rfl
theorem powQ_ok {f : FuncId} {xs : List XV} {y : XV} (hr : powQ f xs = some y) (h : Hp) : QuietOk Tryz.prog GS f xs h y := by
  unfold powQ at hr
  obtain ⟨h1, hr1⟩ := br_some hr
  clear hr
  have := Nat.eq_of_beq_eq_true h1
  subst this
  split at hr1
  · next x n m =>
    cases h2 : sameX n (.int .i64 252) with
    | true =>
      rw [h2, br_t] at hr1
      obtain ⟨h3, hr2⟩ := br_some hr1
      obtain ⟨a, e, rfl⟩ := un5_eq hr2
      cases e
      rw [sameX_eq h2, sameX_eq h3]
      obtain ⟨h', e1⟩ := resV_ex (x_pow3 a)
      exact quiet_dry ((xcalls_ok mixed noD_ok (nE_ok GS_GE) 10).c _ _ _ _ _ e1) (dry_3 a _ _) (dry_F5 _) h
    | false =>
      rw [h2, br_f] at hr1
      obtain ⟨h3, hr2⟩ := br_some hr1
      obtain ⟨h4, hr3⟩ := br_some hr2
      obtain ⟨a, e, rfl⟩ := un5_eq hr3
      cases e
      rw [sameX_eq h3, sameX_eq h4]
      obtain ⟨h', e1⟩ := resV_ex (x_pow5 a)
      exact quiet_dry ((xcalls_ok mixed noD_ok (nE_ok GS_GE) 10).c _ _ _ _ _ e1) (dry_3 a _ _) (dry_F5 _) h
  · cases hr1
noncomputable def baseQ (f : FuncId) (xs : List XV) : Option XV := br (Nat.beq f 86) (match xs with | [] => some (.agg baseP.w) | _ => none) none
noncomputable def qV (f : FuncId) (xs : List XV) (h : Hp) : Option XV := match rightQ f xs h with
  | some r => some r
  | none => (match baseQ f xs with
    | some r => some r
    | none => (match powQ f xs with
      | some r => some r
      | none => fieldQ3 f xs h))
theorem qV_ok {f : FuncId} {xs : List XV} {h : Hp} {y : XV} (hr : qV f xs h = some y) : QuietOk Tryz.prog GS f xs h y := by
  unfold qV at hr
  split at hr
  · next r h1 => cases hr; exact rightQ_ok h1
  · split at hr
    · next r h1 =>
      cases hr
      unfold baseQ at h1
      obtain ⟨h2, h3⟩ := br_some h1
      have := Nat.eq_of_beq_eq_true h2
      subst this
      split at h3
      · cases h3; exact q_Base GS_GE h
      · cases h3
    · split at hr
      · next r h1 => cases hr; exact powQ_ok h1 h
      · exact fieldQ3_ok GS_GE hr
noncomputable def nV : CallsX := ⟨orC pointC (orC (tabC 95 key3 howTab) bitsC), addE, globE, qV⟩
theorem nV_ok : CallsOk Tryz.prog GS nV := ⟨orC_ok (pointC_ok GS_GE) (orC_ok (howC_ok howTab_ok) bitsC_ok), fun _ _ _ h => addE_ok h, fun _ _ _ h => globE_ok GS_GE h, fun _ _ _ _ h => qV_ok h⟩
noncomputable abbrev runV (f : FuncId) (xs : List XV) (h : Hp) : Option (XV × Hp) := (xcalls Tryz.prog noD nV 1000 12).c f xs h
noncomputable def verE (pk sg tx : List Nat) (n : Nat) : Ent := ⟨120, [(none, 0), (none, 1), (none, 2), (some 2, 0)], [.slu 0 0 32 1, .slu 1 0 64 1, .sl (some (2, 0)) 1 1],
  [.row (mapB pk), .row (mapB sg), .cells [.slu 3 0 (len (mapB tx)) 1], .row (mapB tx)], .bool true, [], n⟩
noncomputable def verR (e : Ent) : Bool := (fun r => br (entB e r) (keptB e r) false) (runV e.f e.xs e.heap)
theorem ver_ok {e : Ent} (h : verR e = true) : EntOk Tryz.prog GS e := by
  obtain ⟨h1, h2⟩ := br_and h
  exact ent_of (xcalls_ok mixed noD_ok nV_ok 12) rfl h1 h2
theorem ver1 : verR (verE pk11 sg1 tx1 54003) = true := by kernel_rfl
theorem ver2 : verR (verE pk11 sg2 tx2 55652) = true := by kernel_rfl
end Go.Proofs.YtdjmobighhfogaaGreatDoor
end
section
namespace Go.Proofs.YtdjmobighhfogaaGreatDoor
open Go Go.Sh
def sh29 (s : List UInt8) (w : World) (R : Ending → World → Prop) : Prop :=
  callK Tryz.prog 51 [.string ⟨s.toArray⟩] w (panR R) fun v w1 => ∃ x : List UInt8, v = (.string ⟨x.toArray⟩) ∧ R (.returned (.string ⟨x.toArray⟩)) w1
theorem call29 (s : List UInt8) {w : World} {R : Ending → World → Prop} (hden : sh29 s w R) : Calls Tryz.prog 29 #[.string ⟨s.toArray⟩] w R :=
  calls_of_form (.seq none .z (.seq none .z .z)) Tryz.func29 (by kernel_rfl) [.s s] (by kernel_rfl) (by kernel_rfl) hden
def sh51 (s : List UInt8) (w : World) (R : Ending → World → Prop) : Prop :=
  condK ((s.length : Int) == (0 : Int)) (R (.returned (.string ⟨([]).toArray⟩)) w) (semK Tryz.prog (Instr.makeSlice 22 (.int .i64 (s.length : Int)) (.int .i64 (s.length : Int))) w fun v w1 => ∃ x : Slc, v = (.slice x.a x.len x.cap) ∧ semK Tryz.prog (Builtin.copy_ #[22, 9] 3 #[.slice x.a x.len x.cap, .string ⟨s.toArray⟩]) w1 fun v1 w2 => ∃ x1 : Int, v1 = (.int .i64 x1) ∧ ((0 ≤ (0 : Int) ∧ (0 : Int) < (x.len : Nat)) ∧ onSome x.a fun a => semK Tryz.prog (Builtin.unsafeString_ #[186, 3] 9 #[.pointer (some (a.add (((0 : Int)).toNat * 1))), .int .i64 (x.len : Int)]) w2 fun v2 w3 => ∃ x2 : List UInt8, v2 = (.string ⟨x2.toArray⟩) ∧ R (.returned (.string ⟨x2.toArray⟩)) w3))
theorem call51 (s : List UInt8) {w : World} {R : Ending → World → Prop} (hden : sh51 s w R) : Calls Tryz.prog 51 #[.string ⟨s.toArray⟩] w R :=
  calls_of_form (.seq none .z (.seq none (.seq none .z (.cond (.seq none .z .z) .z)) (.seq none .z (.seq none .z (.seq none .z .z))))) Tryz.func51 (by kernel_rfl) [.s s] (by kernel_rfl) (by kernel_rfl) hden
end Go.Proofs.YtdjmobighhfogaaGreatDoor
end
section
namespace Go.Proofs.YtdjmobighhfogaaGreatDoor
open Go Go.Sh Go.X
theorem shape_of {w : World} {b : Nat} {l : List Value} {T : TypeId} (h : Blk w b l T) : w.shape? b = some (T, l.length) := by
  obtain ⟨fr, h1, _⟩ := h
  simp [World.shape?, h1]
theorem freeze_tch {w : World} {b n : Nat} {l : List Value} {T : TypeId} (h : Blk w b l T) : Mod (fun x => x = b) w (w.freeze ⟨b, 0, none⟩ n) := by
  have hlt := h.lt
  unfold World.freeze
  split
  · exact Mod.refl _ _
  · exact ⟨rfl, rfl, rfl, by simp, fun x hx hne => by
      simp only [Array.getElem?_modify]
      rw [if_neg (fun e => hne e.symm)]⟩
theorem uPB : Tryz.prog.underlying 186 = some (.pointer 5) := by kernel_rfl
section
variable {w : World}
theorem sem_copyStr {t t2 ty : TypeId} {K : Value → World → Prop} (ht : Tryz.prog.underlying t = some (.slice 5)) {b : Nat} {l : List Value} {T : TypeId} {s : List UInt8} (hb : Blk w b l T) (hl : l.length = s.length)
    (hK : ∀ w', Blk w' b (bys s) T → Mod (fun y => y = b) w w' → w'.heap.size = w.heap.size → K (.int .i64 s.length) w') :
    semK Tryz.prog (Builtin.copy_ #[t, t2] ty #[.slice (some ⟨b, 0, none⟩) s.length s.length, .string ⟨s.toArray⟩]) w K := by
  obtain ⟨i5', h51, h52, h53, h54⟩ := i5
  obtain ⟨w', hst, hb', ht'⟩ := store_blk (P := Tryz.prog) (o := 0) (vs := bys s) hb (by simp; omega) (bys_one _)
  have e : putAt l 0 (bys s) = bys s := by
    simp only [putAt, List.take_zero, List.nil_append]
    rw [List.drop_eq_nil_of_le (by simp; omega), List.append_nil]
  rw [e] at hb'
  have hmin : Nat.min s.length s.length = s.length := Nat.min_self _
  refine ⟨_, _, ?_, hK _ hb' ht'.mod ht'.size⟩
  have hex : (ByteArray.extract ⟨s.toArray⟩ 0 s.length).data.map (fun b => Value.int .u8 b.toNat) = (bys s).toArray := by
    have : (ByteArray.extract ⟨s.toArray⟩ 0 s.length).data = s.toArray := by
      rw [ByteArray.data_extract]
      simp
    rw [this]; simp [bys]
  unfold Builtin.copy_
  simp only [List.getElem?_toArray, List.getElem?_cons_zero, List.getElem?_cons_succ, run_underlying ht, Sem.run_bind, Sem.run_pure, Result.andThen_ok, Builtin.lenOf, Builtin.firstCells, goInt, Go.Sh.run_sizeOf h51]
  have hsz : (ByteArray.mk s.toArray).size = s.length := by simp [ByteArray.size]
  simp only [hsz, hmin, hex, hst, Result.andThen_ok]
theorem c_sclone {s : List UInt8} (hn : s.length ≤ 1000000000) : Calls Tryz.prog 29 #[.string ⟨s.toArray⟩] w (Ret fun v w' => v = .string ⟨s.toArray⟩ ∧ Mod NoB w w') := by
  refine call29 _ ?_
  unfold sh29
  have hc : Calls Tryz.prog 51 #[.string ⟨s.toArray⟩] w (Ret fun v w' => v = .string ⟨s.toArray⟩ ∧ Mod NoB w w') := by
    refine call51 _ ?_
    unfold sh51
    obtain ⟨i5', h51, h52, h53, h54⟩ := i5
    refine condK_i (fun h => ?_) fun h => ?_
    · have : s = [] := List.eq_nil_of_length_eq_zero (by have := h; simp at this; simp [this])
      subst this
      exact ⟨rfl, Mod.refl _ _⟩
    · have h0 : s ≠ [] := by rintro rfl; simp at h
      have hp : 0 < s.length := List.length_pos_iff.2 h0
      refine sem_makeSlice (l := s.length) (c := s.length) u26 h51 h52 h53 rfl h54 rfl rfl (by omega) (by omega) (by omega) fun b w1 hN1 hb1 ho1 => ⟨⟨some ⟨b, 0, none⟩, s.length, s.length⟩, rfl, ?_⟩
      have hat := hN1.at_
      refine sem_copyStr u26 hb1 (by simp) fun w2 hb2 hm2 hs2 => ⟨_, rfl, ⟨by omega, by show (0 : Int) < ((s.length : Nat) : Int); omega⟩, ?_⟩
      show semK _ _ _ _
      refine ⟨_, _, Lib.run_unsafeString_row _ 186 3 9 5 uPB (by kernel_rfl) b (bys s).length (shape_of hb2) s h0 (by simp) (by omega) (fun j x hj => ?_), s, rfl, rfl, ?_⟩
      · rw [addl, Nat.zero_add, hb2.cell]
        simp [bys, hj]
      · exact (hN1.mod.fresh hm2 fun x e => by omega).fresh (freeze_tch hb2) fun x e => by omega
  refine callK_ret hc ?_
  rintro v w1 ⟨rfl, hm⟩
  exact ⟨_, rfl, rfl, hm⟩
end
noncomputable def cloneQ (f : FuncId) (xs : List XV) : Option XV := X.br (Nat.beq f 29) (match xs with
  | [.str l] => X.br (Nat.ble (len l) 1000) (some (.str l)) none
  | _ => none) none
theorem cloneQ_ok {f : FuncId} {xs : List XV} {y : XV} (hr : cloneQ f xs = some y) (h : Hp) : QuietOk Tryz.prog GS f xs h y := by
  unfold cloneQ at hr
  obtain ⟨h1, hr1⟩ := br_some hr
  clear hr
  have := Nat.eq_of_beq_eq_true h1
  subst this
  split at hr1
  · next l =>
    obtain ⟨h2, hr2⟩ := br_some hr1
    cases hr2
    have h2 := Nat.le_of_ble_eq_true h2
    rw [len_eq] at h2
    intro S0 w0 ρ w vs hG hi hx
    simp only [XRs] at hx
    obtain ⟨v, vs', rfl, h4, rfl⟩ := hx
    simp only [XR] at h4
    obtain ⟨h5, rfl⟩ := h4
    refine Calls.mono (c_sclone (s := l.map UInt8.ofNat) (by simp; omega)) fun e w' he => ?_
    cases e <;> first | exact he.elim | skip
    obtain ⟨rfl, hm⟩ := he
    exact ⟨_, rfl, by simp only [XR]; exact ⟨h5, rfl⟩, hi.no hm⟩
  · cases hr1
noncomputable def nA : CallsX := ⟨orC (tabC 19 key1 pubTab) (orC (tabC 49 key2 sigTab) (entsC [verE pk11 sg1 tx1 54003, verE pk11 sg2 tx2 55652])), fun _ _ => none, globE, fun f xs _ => cloneQ f xs⟩
theorem nA_ok : CallsOk Tryz.prog GS nA := ⟨orC_ok (pubC_ok pubTab_ok) (orC_ok (sigC_ok sigTab_ok) fun f xs h y h' => entsC_ok fun e he => by
  simp only [List.mem_cons, List.mem_nil_iff, or_false] at he
  rcases he with rfl | rfl
  · exact ver_ok ver1
  · exact ver_ok ver2), fun _ _ _ h => (by cases h), fun _ _ _ h => globE_ok GS_GE h, fun _ _ h _ hr => cloneQ_ok hr h⟩
noncomputable abbrev runA (f : FuncId) (xs : List XV) (h : Hp) : Option (XV × Hp) := (xcalls Tryz.prog dF nA 1000 30).c f xs h
theorem awakeV : resV (runA 4 [] ⟨.lf, 0⟩) = some (.bool true) := by kernel_rfl
theorem c_awake26 {w : World} (hw : GS w) : Calls Tryz.prog 4 #[] w (Ret fun v w' => v = .bool true ∧ Mod NoB w w') := by
  obtain ⟨h', e1⟩ := resV_ex awakeV
  have hq := quiet_dry ((xcalls_ok mixed dF_ok nA_ok 30).c _ _ _ _ _ e1) (fun _ => rfl) (fun _ => rfl) ⟨.lf, 0⟩
  refine Calls.mono (c_q hq (fun w' hm => hw.no hm) (vs := []) rfl) fun e w' ⟨v, h1, h2, h3⟩ => ?_
  simp only [XR] at h2
  subst h1 h2
  exact ⟨rfl, h3⟩
end Go.Proofs.YtdjmobighhfogaaGreatDoor
end
section
namespace Go.Proofs.YtdjmobighhfogaaGreatDoor
open Go Go.Sh
def pk0 : List Value := [.int .i64 0, .int .i64 0, .slice none 0 0]
def rc0 : List Value := [.string ⟨#[]⟩, .int .i64 0, .int .i64 0, .slice none 0 0, .bool false, .slice none 0 0, .slice none 0 0]
def cl0 : List Value := cCells none none none 0 ⟨none, 0, 0⟩ ⟨none, 0, 0⟩ ⟨none, 0, 0⟩
def NoCl (w : World) (c : Option Addr) : Prop := c = none ∨ ∃ b T, c = some ⟨b, 0, none⟩ ∧ Blk w b cl0 T
theorem NoCl.no {w w' : World} {c : Option Addr} (h : NoCl w c) (hm : Mod NoB w w') : NoCl w' c := by
  rcases h with h | ⟨b, T, h1, h2⟩
  · exact .inl h
  · exact .inr ⟨b, T, h1, h2.no hm⟩
theorem iPacket : ∃ i, Tryz.prog.info? 26 = some i ∧ i.zero = some (.agg pk0.toArray) ∧ i.size = 3 ∧ i.bytes = 40 := info_of (by kernel_rfl) (by kernel_rfl) (by kernel_rfl)
theorem iRec0 : ∃ i, Tryz.prog.info? 50 = some i ∧ i.zero = some (.agg rc0.toArray) ∧ i.size = 7 ∧ i.bytes = 112 := info_of (by kernel_rfl) (by kernel_rfl) (by kernel_rfl)
theorem iPC : ∃ i, Tryz.prog.info? 30 = some i ∧ i.zero = some (.pointer none) ∧ i.size = 1 ∧ i.bytes = 8 := info_of (by kernel_rfl) (by kernel_rfl) (by kernel_rfl)
theorem iInt0 : ∃ i, Tryz.prog.info? 3 = some i ∧ i.zero = some (.int .i64 0) ∧ i.size = 1 ∧ i.bytes = 8 := info_of (by kernel_rfl) (by kernel_rfl) (by kernel_rfl)
theorem uPC : Tryz.prog.underlying 30 = some (.pointer 46) := by kernel_rfl
theorem uPC2 : Tryz.prog.underlying 32 = some (.pointer 81) := by kernel_rfl
theorem uPCs : Tryz.prog.underlying 47 = some (.slice 30) := by kernel_rfl
theorem uIntsC : Tryz.prog.underlying 106 = some (.slice 3) := by kernel_rfl
theorem uBoolC : Tryz.prog.underlying 4 = some .bool := by kernel_rfl
theorem rc0_one : ∀ u ∈ rc0, u.oneCell' = true := by intro u hu; simp [rc0] at hu; rcases hu with rfl | rfl | rfl | rfl | rfl <;> rfl
theorem pk0_one : ∀ u ∈ pk0, u.oneCell' = true := by intro u hu; simp [pk0] at hu; rcases hu with rfl | rfl | rfl <;> rfl
section
variable {w : World} {c : Option Addr}
theorem c_there26 (hc : NoCl w c) : Calls Tryz.prog 26 #[.pointer c] w (Ret fun v w' => v = .bool false ∧ w' = w) := by
  refine call26 _ ?_
  unfold sh26
  refine ps_neq_ptr uPC ⟨_, rfl, condK_i (fun h => ?_) fun h => ⟨rfl, rfl⟩⟩
  rcases hc with rfl | ⟨b, T, rfl, hb⟩
  · simp at h
  · exact ⟨0, hb.rd1 (o := 9) rfl, rfl, rfl⟩
theorem c_PutN {n : Int} {key : List UInt8} {v0 : Slc} {gone : Bool} (hc : NoCl w c) : Calls Tryz.prog 7 #[.pointer c, .int .i64 n, .string ⟨key.toArray⟩, .slice v0.a v0.len v0.cap, .bool gone] w
    (Ret fun v w' => v = .tuple #[.agg pk0.toArray, .agg rc0.toArray, .int .i64 1] ∧ Mod NoB w w') := by
  obtain ⟨ip, p1, p2, p3, p4⟩ := iPacket
  obtain ⟨ir, r1, r2, r3, r4⟩ := iRec0
  refine call7 _ _ _ _ _ ?_
  unfold sh7
  refine sem_alloc (l := pk0) p1 p2 rfl fun p w1 hN1 hb1 => ⟨_, rfl, ?_⟩
  refine sem_alloc (l := rc0) r1 r2 rfl fun r w2 hN2 hb2 => ⟨_, rfl, ?_⟩
  have hM2 := hN1.mod.tr hN2.mod
  have e1 := hN1.at_; have e2 := hN2.at_; have hpl := hb1.lt; have z1 := hN1.mod.size
  refine callK_ret (c_there26 (hc.no hM2)) ?_
  rintro v w3 ⟨rfl, rfl⟩
  refine ⟨_, rfl, condK_i (fun _ => ?_) fun h => by cases h⟩
  refine semU_store (o := 0) (vs := pk0) (by kernel_rfl) (by kernel_rfl) rfl (hb1.no hN2.mod) (by simp [pk0]) pk0_one fun w4 ht4 hb4 => ?_
  have hb4 : Blk w4 p pk0 _ := hb4
  refine semU_store (o := 0) (vs := rc0) (by kernel_rfl) (by kernel_rfl) rfl (hb2.mod ht4.mod (fun e => by have : r = p := e; omega)) (by simp [rc0]) rc0_one fun w5 ht5 hb5 => ?_
  have hb5 : Blk w5 r rc0 _ := hb5
  have hb45 := hb4.mod ht5.mod (fun e => by have : p = r := e; omega)
  refine ⟨0, 0, ⟨none, 0, 0⟩, hb45.rd fun j v hj => by simpa [pk0] using hj, ?_⟩
  refine ⟨[], 0, 0, ⟨none, 0, 0⟩, false, ⟨none, 0, 0⟩, ⟨none, 0, 0⟩, hb5.rd fun j v hj => by simpa [rc0] using hj, ?_⟩
  exact ⟨rfl, (hM2.fresh ht4.mod fun z e => by (have : z = p := e); omega).fresh ht5.mod fun z e => by (have : z = r := e); omega⟩
theorem c_GetN {key : List UInt8} {s : Slc} (hc : NoCl w c) : Calls Tryz.prog 8 #[.pointer c, .string ⟨key.toArray⟩, .slice s.a s.len s.cap] w
    (Ret fun v w' => v = .tuple #[.slice none 0 0, .int .i64 1] ∧ Mod NoB w w') := by
  refine call8 _ _ _ ?_
  unfold sh8
  refine sem_box (l := [.pointer c]) rfl fun b w1 hN1 hb1 => ⟨_, rfl, ?_⟩
  refine ⟨c, hb1.rd1 (o := 0) rfl, ?_⟩
  refine callK_ret (c_there26 (hc.no hN1.mod)) ?_
  rintro v w3 ⟨rfl, rfl⟩
  exact ⟨_, rfl, condK_i (fun _ => ⟨rfl, hN1.mod⟩) fun h => by cases h⟩
theorem c_TakeN {a b : Int} {s : Slc} (hc : NoCl w c) : Calls Tryz.prog 9 #[.pointer c, .agg #[.int .i64 a, .int .i64 b, .slice s.a s.len s.cap]] w
    (Ret fun v w' => v = .tuple #[.slice none 0 0, .int .i64 1] ∧ Mod NoB w w') := by
  refine call9 _ _ _ _ ?_
  unfold sh9
  refine sem_box (l := [.int .i64 a, .int .i64 b, s.val]) rfl fun q w1 hN1 hb1 => ⟨_, rfl, ?_⟩
  refine callK_ret (c_there26 (hc.no hN1.mod)) ?_
  rintro v w3 ⟨rfl, rfl⟩
  exact ⟨_, rfl, condK_i (fun _ => ⟨rfl, hN1.mod⟩) fun h => by cases h⟩
theorem c_CtxN {key : List UInt8} (hc : NoCl w c) : Calls Tryz.prog 11 #[.pointer c, .string ⟨key.toArray⟩] w (Ret fun v w' => v = .slice none 0 0 ∧ w' = w) := by
  refine call11 _ _ ?_
  unfold sh11
  refine callK_ret (c_there26 hc) ?_
  rintro v w3 ⟨rfl, rfl⟩
  exact ⟨_, rfl, condK_i (fun _ => ⟨rfl, rfl⟩) fun h => by cases h⟩
end
noncomputable def zrec : X.XV := .agg [.str [], .int .i64 0, .int .i64 0, .sl none 0 0, .bool false, .sl none 0 0, .sl none 0 0]
theorem x_same0 : resV (runA 10 [zrec, zrec] ⟨.lf, 0⟩) = some (.bool true) := by kernel_rfl
theorem c_same0 {w : World} (hw : GS w) : Calls Tryz.prog 10 #[.agg rc0.toArray, .agg rc0.toArray] w (Ret fun v w' => v = .bool true ∧ Mod NoB w w') := by
  obtain ⟨h', e1⟩ := resV_ex x_same0
  have hq := X.quiet_dry ((X.xcalls_ok mixed dF_ok nA_ok 30).c _ _ _ _ _ e1) (fun _ => rfl) (fun _ => rfl) ⟨.lf, 0⟩
  have hz : X.XR (fun _ => none) zrec (.agg rc0.toArray) := by
    simp only [zrec, X.XR]
    exact ⟨rc0, ⟨_, _, rfl, by simp [X.XR, X.strV], _, _, rfl, rfl, _, _, rfl, rfl, _, _, rfl, rfl, _, _, rfl, rfl, _, _, rfl, rfl, _, _, rfl, rfl, rfl⟩, rfl⟩
  refine Calls.mono (c_q hq (fun w' hm => hw.no hm) (vs := [.agg rc0.toArray, .agg rc0.toArray]) ⟨_, _, rfl, hz, _, _, rfl, hz, rfl⟩) fun e w' ⟨v, h1, h2, h3⟩ => ?_
  simp only [X.XR] at h2
  subst h1 h2
  exact ⟨rfl, h3⟩
section
variable {w : World} {sd : Slc} {l : List UInt8} {ps : Slc} {ss : List Slc} {pl : List (List UInt8)} {gs : Slc} {rows : List Gt} {ks : List (List UInt8)}
theorem c_clientNews {id a b : Int} {pc : Slc} (hG : GS w) (hs : SlRd w sd 1 (bys l)) (hsl : ∀ z, sd.blk = some z → z < w.heap.size)
    (hp : SlRd w ps 1 (vals ss)) (hplt : ∀ z, ps.blk = some z → z < w.heap.size) (hplen : ss.length = pl.length)
    (hpk : ∀ i (h : i < ss.length) (h' : i < pl.length), SlRd w ss[i] 1 (bys pl[i]) ∧ ∀ z, ss[i].blk = some z → z < w.heap.size) (hg : GrAt w gs rows ks) :
    Calls Tryz.prog 3 #[.int .i64 id, .slice sd.a sd.len sd.cap, .slice ps.a ps.len ps.cap, .slice gs.a gs.len gs.cap, .agg #[.int .i64 a, .int .i64 b, .slice pc.a pc.len pc.cap]] w (Ret fun v w' => v = .bool true ∧ Mod NoB w w') := by
  have hl8 := rd_len8 hs
  have hpl : pl.length = ps.len := by have := hp.1; rw [vals_len] at this; omega
  have hgl := rd_lenG hg.rd
  refine call3 _ _ _ _ _ _ _ ?_
  unfold sh3
  refine sem_box (l := [.int .i64 a, .int .i64 b, pc.val]) rfl fun q w1 hN1 hb1 => ⟨_, rfl, ?_⟩
  refine callK_ret (c_awake26 (hG.no hN1.mod)) ?_
  rintro v w2 ⟨rfl, hm2⟩
  refine ⟨_, rfl, condK_i (fun h => by cases h) fun _ => ?_⟩
  have hM2 := hN1.mod.tr hm2
  have hb2 := hb1.no hm2
  refine ⟨fun l' w' => match l' with | [.b t] => w' = w2 ∧ (t = false → l.length ≤ 100 ∧ pl.length ≤ 10 ∧ rows.length ≤ 12) | _ => False, ?_, ?_⟩
  · refine condK_i (fun h => ⟨rfl, fun h => by cases h⟩) fun h1 => ?_
    refine condK_i (fun h => ⟨rfl, fun h => by cases h⟩) fun h2 => ?_
    refine condK_i (fun h => ⟨rfl, fun h => by cases h⟩) fun h3 => ?_
    exact ⟨pc, hb2.rd1 (o := 2) rfl, rfl, fun _ => ⟨by simp at h1; omega, by simp at h2; omega, by simp at h3; omega⟩⟩
  rintro t w3 ⟨rfl, ht⟩
  refine condK_i (fun _ => ⟨rfl, hM2⟩) fun h => ?_
  obtain ⟨n1, n2, n3⟩ := ht h
  refine ⟨fun l' w' => match l' with | [.i _ x] => ∃ k : Nat, x = k ∧ k ≤ pl.length ∧ (∀ i (h : i < pl.length), i < k → pl[i].length ≤ 100) ∧ w' = w3 | _ => False, fun l' _ => match l' with | [.i _ x] => (pl.length - x).toNat | _ => 0, ⟨0, rfl, by omega, fun i h h0 => by omega, rfl⟩, ?_⟩
  rintro x w4 ⟨k, rfl, hk, hgo, rfl⟩
  refine condK_i (fun hlt => ?_) fun hge => ?_
  · have hk' : k < pl.length := by simp at hlt; omega
    have hks : k < ss.length := by rw [hplen]; exact hk'
    obtain ⟨ad, ea, hr⟩ := rd_slc (hp.no hM2) hks
    have h8 := rd_len8 (hpk k hks hk').1
    rw [ea]
    refine ⟨⟨by omega, by omega⟩, ss[k], hr, condK_i (fun h => ⟨rfl, hM2⟩) fun h => ⟨⟨k + 1, wrap_nat (by omega), by omega, fun i hi hik => ?_, rfl⟩, ?_⟩⟩
    · rcases Nat.lt_or_ge i k with h1 | h1
      · exact hgo i hi h1
      · obtain rfl : i = k := by omega
        simp at h; omega
    · rw [wrap_nat (by omega)]; (try simp only []); omega
  have hkk : k = pl.length := by simp at hge; omega
  subst hkk
  refine ⟨fun l' w' => match l' with | [.i _ x] => ∃ k : Nat, x = k ∧ k ≤ rows.length ∧ (∀ i (h : i < rows.length), i < k → rows[i].s.len ≤ 100) ∧ w' = w4 | _ => False, fun l' _ => match l' with | [.i _ x] => (rows.length - x).toNat | _ => 0, ⟨0, rfl, by omega, fun i h h0 => by omega, rfl⟩, ?_⟩
  rintro x w5 ⟨k, rfl, hk2, hgo2, rfl⟩
  refine condK_i (fun hlt => ?_) fun hge2 => ?_
  · have hk' : k < rows.length := by simp at hlt; omega
    obtain ⟨ad, ea, hr⟩ := rd_g (hg.no hM2).rd hk'
    have hb : (0 : Int) ≤ (k : Int) ∧ (k : Int) < (gs.len : Nat) := ⟨by omega, by omega⟩
    rw [ea]
    refine ⟨hb, rows[k].s, rd_nth hr 1 rfl, condK_i (fun h => ⟨rfl, hM2⟩) fun h => ?_⟩
    refine ⟨hb, rows[k].p, rd_nth hr 2 rfl, condK_i (fun h => ⟨rfl, hM2⟩) fun h' => ⟨⟨k + 1, wrap_nat (by omega), by omega, fun i hi hik => ?_, rfl⟩, ?_⟩⟩
    · rcases Nat.lt_or_ge i k with h1 | h1
      · exact hgo2 i hi h1
      · obtain rfl : i = k := by omega
        simp at h; omega
    · rw [wrap_nat (by omega)]; (try simp only []); omega
  have hkk : k = rows.length := by simp at hge2; omega
  subst hkk
  have hI : NIn w sd l ps ss pl gs rows ks := ⟨hs, hsl, by omega, hp, hplt, hplen, hpk, by omega, fun p hp => by
    obtain ⟨i, hi, rfl⟩ := List.getElem_of_mem hp
    have := hgo i hi hi; omega, hg, by omega, fun p hp => by
    obtain ⟨i, hi, rfl⟩ := List.getElem_of_mem hp
    have hi' : i < rows.length := by rw [hg.len]; exact hi
    have := hgo2 i hi' hi'
    have h2 := rd_len8 (hg.key i hi' hi).1
    omega⟩
  refine callK_ret (c_New (hG.no hM2) (hI.no hM2)) ?_
  rintro v w6 ⟨x6, rfl, hx6, hm6⟩
  refine ⟨x6, rfl, ps_neq_ptr uPC ⟨_, rfl, ?_⟩⟩
  have hM6 := hM2.tr hm6
  refine callK_ret (c_rNew (hG.no hM6) (hI.no hM6)) ?_
  rintro v w7 ⟨x8, rfl, hx8, hm7⟩
  refine ⟨x8, rfl, ps_neq_ptr uPC2 ⟨_, rfl, ps_neq_bool uBoolC ⟨_, rfl, ?_⟩⟩⟩
  have hM7 := hM6.tr hm7
  have hsame : x6.isSome = x8.isSome := Bool.eq_iff_iff.2 (hx6.trans hx8.symm)
  refine condK_i (fun h => by rw [hsame] at h; simp at h) fun _ => ?_
  refine sem_box (l := cl0) rfl fun cb w8 hN8 hb8 => ⟨_, rfl, ?_⟩
  obtain ⟨ipc, c1, c2, c3, c4⟩ := iPC
  obtain ⟨ii, j1, j2, j3, j4⟩ := iInt0
  refine sem_lit (l := [.pointer none, .pointer (some ⟨cb, 0, none⟩)]) [.pointer none, .pointer (some ⟨cb, 0, none⟩)] uPCs c1 c2 c3 (by decide) rfl (by decide) (by decide) rfl (by simp [Value.cells]) rfl fun lb w9 hN9 hb9 => ⟨⟨_, _, _⟩, rfl, ?_⟩
  have hM9 := (hM7.tr hN8.mod).tr hN9.mod
  have hb89 := hb8.no hN9.mod
  refine ⟨fun l' w' => match l' with | [.i _ x] => ∃ k : Nat, x = k ∧ k ≤ 2 ∧ Mod NoB w9 w' | _ => False, fun l' _ => match l' with | [.i _ x] => (2 - x).toNat | _ => 0, ⟨0, rfl, by omega, Mod.refl _ _⟩, ?_⟩
  rintro x w10 ⟨k, rfl, hk3, hm10⟩
  refine condK_i (fun hlt => ?_) fun hge3 => ⟨rfl, hM9.tr hm10⟩
  have hk' : k < 2 := by simp at hlt; omega
  have hb : (0 : Int) ≤ (k : Int) ∧ (k : Int) < ((2 : Nat) : Int) := ⟨by omega, by omega⟩
  obtain ⟨c, hc, hrd⟩ : ∃ c : Option Addr, NoCl w9 c ∧ ∀ w', Mod NoB w9 w' → Rd w' ((⟨lb, 0, none⟩ : Addr).add (k * 1)) [.pointer c] := by
    match k, hk' with
    | 0, _ => exact ⟨none, .inl rfl, fun w' hm => (hb9.no hm).rd1 (o := 0) rfl⟩
    | 1, _ => exact ⟨some ⟨cb, 0, none⟩, .inr ⟨cb, _, rfl, hb89⟩, fun w' hm => (hb9.no hm).rd1 (o := 1) rfl⟩
  refine ⟨hb, c, hrd _ hm10, ?_⟩
  refine callK_ret (c_PutN (hc.no hm10)) ?_
  rintro v w11 ⟨rfl, hm11⟩
  refine ⟨0, 0, ⟨none, 0, 0⟩, [], 0, 0, ⟨none, 0, 0⟩, false, ⟨none, 0, 0⟩, ⟨none, 0, 0⟩, 1, rfl, ?_⟩
  obtain ⟨ip, p1, p2, p3, p4⟩ := iPacket
  obtain ⟨ir, r1, r2, r3, r4⟩ := iRec0
  refine sem_alloc (l := pk0) p1 p2 rfl fun p w12 hN12 hb12 => ⟨_, rfl, ?_⟩
  refine sem_alloc (l := rc0) r1 r2 rfl fun r w13 hN13 hb13 => ⟨_, rfl, ?_⟩
  have e1 := hN12.at_; have e2 := hN13.at_; have hpl2 := hb12.lt; have z1 := hN12.mod.size
  have hm1013 := (hm10.tr hm11).tr (hN12.mod.tr hN13.mod)
  have z9 := (hm10.tr hm11).size
  refine semU_store (o := 0) (vs := pk0) (by kernel_rfl) (by kernel_rfl) rfl (hb12.no hN13.mod) (by simp [pk0]) pk0_one fun w14 ht14 hb14 => ?_
  have hb14 : Blk w14 p pk0 _ := hb14
  refine semU_store (o := 0) (vs := rc0) (by kernel_rfl) (by kernel_rfl) rfl (hb13.mod ht14.mod (fun e => by have : r = p := e; omega)) (by simp [rc0]) rc0_one fun w15 ht15 hb15 => ?_
  have hb15 : Blk w15 r rc0 _ := hb15
  have hb145 := hb14.mod ht15.mod (fun e => by have : p = r := e; omega)
  have hm15 : Mod NoB w9 w15 := (hm1013.fresh ht14.mod fun z e => by (have : z = p := e); omega).fresh ht15.mod fun z e => by (have : z = r := e); omega
  refine ⟨hb, c, hrd _ hm15, ?_⟩
  refine sem_lit (l := [.int .i64 1]) [.int .i64 1] uIntsC j1 j2 j3 (by decide) rfl (by decide) (by decide) rfl (by simp [Value.cells]) rfl fun ib w16 hN16 hb16 => ⟨⟨_, _, _⟩, rfl, ?_⟩
  have hm16 := hm15.tr hN16.mod
  refine callK_ret (c_GetN (s := ⟨some ⟨ib, 0, none⟩, 1, 1⟩) (hc.no hm16)) ?_
  rintro v w17 ⟨rfl, hm17⟩
  refine ⟨⟨none, 0, 0⟩, 1, rfl, ?_⟩
  have hmd : Mod NoB w17 w17.drew := Mod.drew _ _
  have hm9x := (hm16.tr hm17)
  have hq17 := ((hb2.no (hm6.tr hm7)).no (hN8.mod.tr hN9.mod)).no hm9x
  refine ⟨fun w' => Mod NoB w17 w', hmd, hb, c, fun w' hm => hrd _ (hm9x.tr hm), a, b, pc, fun w' hm => (hq17.no hm).rd fun j v hj => by simpa [Slc.val] using hj, ?_, trivial⟩
  refine callK_ret (c_TakeN (hc.no (hm9x.tr hmd))) ?_
  rintro v w18 ⟨rfl, hm18⟩
  refine ⟨⟨none, 0, 0⟩, 1, rfl, ?_⟩
  have hm1518 := ((hN16.mod.tr hm17).tr hmd).tr hm18
  have hp18 := hb145.no hm1518
  have hr18 := hb15.no hm1518
  refine condK_i (fun h => by simp at h) fun _ => condK_i (fun h => by simp at h) fun _ => condK_i (fun h => by simp at h) fun _ => ?_
  refine ⟨⟨none, 0, 0⟩, hp18.rd1 (o := 2) rfl, condK_i (fun h => absurd (show (IntKind.i64.wrap (IntKind.i64.wrap (((0 : Nat) : Int) + ((0 : Nat) : Int)) + ((0 : Nat) : Int)) != 0) = true from h) (by decide)) fun _ => ?_⟩
  refine ⟨0, hp18.rd1 (o := 1) rfl, condK_i (fun h => by simp at h) fun _ => ?_⟩
  refine ⟨[], 0, 0, ⟨none, 0, 0⟩, false, ⟨none, 0, 0⟩, ⟨none, 0, 0⟩, hr18.rd fun j v hj => by simpa [rc0] using hj, ?_⟩
  have hm918 := (hm9x.tr hmd).tr hm18
  refine callK_ret (c_same0 (hG.no (hM9.tr hm918))) ?_
  rintro v w19 ⟨rfl, hm19⟩
  refine ⟨_, rfl, condK_i (fun h => by cases h) fun _ => ?_⟩
  have hm919 := hm918.tr hm19
  refine ⟨hb, c, hrd _ hm919, ?_⟩
  refine callK_ret (c_CtxN (hc.no hm919)) ?_
  rintro v w20 ⟨rfl, rfl⟩
  refine ⟨⟨none, 0, 0⟩, rfl, condK_i (fun h => by simp at h) fun _ => ⟨⟨k + 1, wrap_nat (by omega), by omega, hm919⟩, ?_⟩⟩
  rw [wrap_nat (by omega)]; (try simp only []); omega
end
end Go.Proofs.YtdjmobighhfogaaGreatDoor
end
