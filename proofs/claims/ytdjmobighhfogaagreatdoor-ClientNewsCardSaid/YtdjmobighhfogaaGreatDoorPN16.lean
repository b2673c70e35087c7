/- The forms of the translated functions, their contracts and the plain laws behind them, put together by a program. -/
import Derived.Test.YtdjmobighhfogaaGreatDoorPN15
set_option linter.unusedSimpArgs false
set_option linter.unusedVariables false
set_option maxRecDepth 1000000
set_option maxHeartbeats 8000000
section
namespace Go.Proofs.YtdjmobighhfogaaGreatDoor
open Go Go.Sh
structure Gt where
  c : Int
  s : Slc
  p : List UInt8
def Gt.cells (g : Gt) : List Value := [.int .i64 g.c, g.s.val, .string ⟨g.p.toArray⟩]
def gsC (l : List Gt) : List Value := l.flatMap Gt.cells
theorem gsC_cons (g : Gt) (l : List Gt) : gsC (g :: l) = g.cells ++ gsC l := by simp [gsC]
theorem gsC_len : ∀ l : List Gt, (gsC l).length = l.length * 3
  | [] => rfl
  | g :: l => by rw [gsC_cons, List.length_append, gsC_len l]; simp [Gt.cells]; omega
theorem gsC_get : ∀ {l : List Gt} {i : Nat} (h : i < l.length) (j : Nat), j < 3 → (gsC l)[i * 3 + j]? = (l[i].cells)[j]?
  | g :: l, 0, h, j, hj => by
    rw [gsC_cons, List.getElem?_append_left (by simp [Gt.cells]; omega)]
    simp
  | g :: l, i + 1, h, j, hj => by
    have hl : g.cells.length = 3 := rfl
    rw [gsC_cons, List.getElem?_append_right (by rw [hl]; omega), hl, show (i + 1) * 3 + j - 3 = i * 3 + j by omega]
    exact gsC_get (by simpa using h) j hj
theorem gsC_one (l : List Gt) : ∀ y ∈ gsC l, y.oneCell' = true := by
  intro y hy
  obtain ⟨g, _, hy⟩ := List.mem_flatMap.1 hy
  simp [Gt.cells] at hy
  rcases hy with rfl | rfl | rfl <;> rfl
theorem rd_nth {w : World} {a : Addr} {vs : List Value} {v : Value} (h : Rd w a vs) (j : Nat) (hj : vs[j]? = some v) : Rd w (a.add j) [v] := by
  intro i u hu
  cases i with
  | zero =>
    simp only [List.getElem?_cons_zero, Option.some.injEq] at hu
    subst hu
    rw [Addr.add_add']
    exact h j v hj
  | succ i => simp at hu
theorem rd_lenG {w : World} {s : Slc} {l : List Gt} (h : SlRd w s 3 (gsC l)) : l.length = s.len := by have := h.1; rw [gsC_len] at this; omega
theorem rd_g {w : World} {s : Slc} {l : List Gt} (h : SlRd w s 3 (gsC l)) {i : Nat} (hi : i < l.length) : ∃ a, s.a = some a ∧ Rd w (a.add (i * 3)) l[i].cells := by
  have hl := rd_lenG h
  refine h.at (by omega) (by omega) fun j u hu => ?_
  rw [gsC_get hi j (by have := (List.getElem?_eq_some_iff.1 hu).1; simpa [Gt.cells] using this)]
  exact hu
theorem putg (a b : Gt) : putAt a.cells 0 b.cells = b.cells := by simp [putAt, Gt.cells]
def RG1 (l : List Gt) (i : Nat) (h : i < l.length) : Prop := 1 ≤ l[i].c ∧ l[i].c ≤ 8 ∧ (∀ h0 : 0 < i, (l[i - 1]'(by omega)).c < l[i].c) ∧ l[i].s.len = 32 ∧ l[i].p.length ≤ 64
def RGr (l : List Gt) : Prop := ∀ i (h : i < l.length), RG1 l i h
def RB (p : Prop) (w : World) (v : Value) (w' : World) : Prop := ∃ b : Bool, v = .bool b ∧ (b = true ↔ p) ∧ Mod NoB w w'
theorem RB.no {p : Prop} {w w' : World} (h : ¬ p) (hm : Mod NoB w w') : RB p w (.bool false) w' := ⟨false, rfl, by simp [h], hm⟩
theorem RB.yes {p : Prop} {w w' : World} (h : p) (hm : Mod NoB w w') : RB p w (.bool true) w' := ⟨true, rfl, by simp [h], hm⟩
structure GrAt (w : World) (s : Slc) (l : List Gt) (ks : List (List UInt8)) : Prop where
  rd : SlRd w s 3 (gsC l)
  lt : ∀ z, s.blk = some z → z < w.heap.size
  len : l.length = ks.length
  key : ∀ i (h : i < l.length) (h' : i < ks.length), SlRd w l[i].s 1 (bys ks[i]) ∧ ∀ z, l[i].s.blk = some z → z < w.heap.size
theorem GrAt.no {w w' : World} {s : Slc} {l : List Gt} {ks : List (List UInt8)} (h : GrAt w s l ks) (hm : Mod NoB w w') : GrAt w' s l ks :=
  ⟨h.rd.no hm, fun z hz => Nat.lt_of_lt_of_le (h.lt z hz) hm.size, h.len, fun i a b => ⟨(h.key i a b).1.no hm, fun z hz => Nat.lt_of_lt_of_le ((h.key i a b).2 z hz) hm.size⟩⟩
theorem iGrant : ∃ i, Tryz.prog.info? 29 = some i ∧ i.zero = some (.agg #[.int .i64 0, .slice none 0 0, .string ⟨#[]⟩]) ∧ i.size = 3 ∧ i.bytes = 48 := info_of (by kernel_rfl) (by kernel_rfl) (by kernel_rfl)
theorem uGrants : Tryz.prog.underlying 24 = some (.slice 29) := by kernel_rfl
def g0 : Gt := ⟨0, ⟨none, 0, 0⟩, []⟩
section
variable {w : World} {s : Slc} {l : List Gt} {ks : List (List UInt8)}
theorem c_rRight (hg : GrAt w s l ks) (hn : l.length ≤ 1000000) : Calls Tryz.prog 23 #[.slice s.a s.len s.cap] w (Ret (RB (RGr l) w)) := by
  have hlen := rd_lenG hg.rd
  refine call23 _ ?_
  unfold sh23
  refine ⟨fun l' w' => match l' with | [.i _ x] => ∃ k : Nat, x = k ∧ k ≤ l.length ∧ (∀ i (h : i < l.length), i < k → RG1 l i h) ∧ Mod NoB w w' | _ => False, fun l' _ => match l' with | [.i _ x] => (l.length - x).toNat | _ => 0, ⟨0, rfl, by omega, fun i h h0 => by omega, Mod.refl _ _⟩, ?_⟩
  rintro x w1 ⟨k, rfl, hk, hgo, hm⟩
  refine condK_i (fun hlt => ?_) fun hge => ?_
  · have hk' : k < l.length := by simp at hlt; omega
    have hmd : Mod NoB w w1.drew := hm.tr (Mod.drew _ _)
    obtain ⟨a, ea, hr⟩ := rd_g (hg.rd.no hmd) hk'
    have hb : (0 : Int) ≤ (k : Int) ∧ (k : Int) < (s.len : Nat) := ⟨by omega, by omega⟩
    have no : ¬ RG1 l k hk' → RB (RGr l) w (.bool false) w1.drew := fun h => RB.no (fun hR => h (hR k hk')) hmd
    have nx : RG1 l k hk' → ∃ k' : Nat, IntKind.i64.wrap ((k : Int) + 1) = k' ∧ k' ≤ l.length ∧ (∀ i (h : i < l.length), i < k' → RG1 l i h) ∧ Mod NoB w w1.drew := fun h => ⟨k + 1, wrap_nat (by omega), by omega, fun i hi hik => by
      rcases Nat.lt_or_ge i k with h1 | h1
      · exact hgo i hi h1
      · obtain rfl : i = k := by omega
        exact h, hmd⟩
    rw [ea]
    simp only [Int.toNat_natCast]
    refine ⟨hb, l[k].c, rd_nth hr 0 rfl, condK_i (fun h => no fun hR => by have := hR.1; simp at h; omega) fun h1 => ?_⟩
    refine ⟨hb, l[k].c, rd_nth hr 0 rfl, condK_i (fun h => no fun hR => by have := hR.2.1; simp at h; omega) fun h2 => ?_⟩
    refine condK_i (fun h0 => ?_) fun h0 => ?_
    · have h0 : 0 < k := by simp at h0; omega
      have ek : IntKind.i64.wrap ((k : Int) - 1) = ((k - 1 : Nat) : Int) := by rw [wrap_i64 (by omega)]; omega
      obtain ⟨a', ea', hr'⟩ := rd_g (hg.rd.no hmd) (i := k - 1) (by omega)
      rw [ea] at ea'; cases ea'
      rw [ek]
      simp only [Int.toNat_natCast]
      refine ⟨⟨by omega, by omega⟩, hb, (l[k - 1]'(by omega)).c, rd_nth hr' 0 rfl, l[k].c, rd_nth hr 0 rfl, condK_i (fun h => no fun hR => by have := hR.2.2.1 h0; simp at h; omega) fun h3 => ?_⟩
      refine ⟨hb, l[k].s, rd_nth hr 1 rfl, condK_i (fun h => no fun hR => by have := hR.2.2.2.1; simp at h; omega) fun h4 => ?_⟩
      refine ⟨hb, l[k].p, rd_nth hr 2 rfl, condK_i (fun h => no fun hR => by have := hR.2.2.2.2; simp at h; omega) fun h5 => ?_⟩
      refine ⟨nx ⟨by simp at h1; omega, by simp at h2; omega, fun _ => by simp at h3; omega, by simp at h4; omega, by simp at h5; omega⟩, ?_⟩
      rw [wrap_nat (by omega)]; (try simp only []); omega
    · have h0 : ¬ 0 < k := by simp at h0; omega
      refine ⟨hb, l[k].s, rd_nth hr 1 rfl, condK_i (fun h => no fun hR => by have := hR.2.2.2.1; simp at h; omega) fun h4 => ?_⟩
      refine ⟨hb, l[k].p, rd_nth hr 2 rfl, condK_i (fun h => no fun hR => by have := hR.2.2.2.2; simp at h; omega) fun h5 => ?_⟩
      refine ⟨nx ⟨by simp at h1; omega, by simp at h2; omega, fun h => absurd h h0, by simp at h4; omega, by simp at h5; omega⟩, ?_⟩
      rw [wrap_nat (by omega)]; (try simp only []); omega
  · have hk' : k = l.length := by simp at hge; omega
    subst hk'
    exact RB.yes (fun i h => hgo i h h) hm
theorem c_tright (hg : GrAt w s l ks) (hn : l.length ≤ 1000000) : Calls Tryz.prog 43 #[.agg #[.slice s.a s.len s.cap]] w (Ret (RB (RGr l) w)) := by
  have hlen := rd_lenG hg.rd
  obtain ⟨ig, i1, i2, i3, i4⟩ := iGrant
  refine call43 _ ?_
  unfold sh43
  refine sem_box (l := [s.val]) rfl fun tb w1 hN1 hb1 => ⟨_, rfl, ?_⟩
  refine ⟨s, hb1.rd1 (o := 0) rfl, ?_⟩
  refine ⟨fun l' w' => match l' with | [.i _ y, .i _ x] => ∃ k : Nat, x = k ∧ k ≤ l.length ∧ (k = 0 → y = 0) ∧ (∀ (h0 : 0 < k) (h : k - 1 < l.length), y = l[k - 1].c) ∧ (∀ i (h : i < l.length), i < k → RG1 l i h) ∧ Mod NoB w w' | _ => False, fun l' _ => match l' with | [.i _ _, .i _ x] => (l.length - x).toNat | _ => 0, ⟨0, rfl, by omega, fun _ => rfl, fun h => by omega, fun i h h0 => by omega, hN1.mod⟩, ?_⟩
  rintro y x w2 ⟨k, rfl, hk, hy0, hyk, hgo, hm⟩
  refine condK_i (fun hlt => ?_) fun hge => ?_
  · have hk' : k < l.length := by simp at hlt; omega
    obtain ⟨a, ea, hr⟩ := rd_g (hg.rd.no hm) hk'
    rw [ea]
    simp only [Int.toNat_natCast]
    refine ⟨⟨by omega, by omega⟩, l[k].c, l[k].s, l[k].p, hr, ?_⟩
    refine sem_alloc (l := g0.cells) i1 i2 rfl fun g w3 hN3 hb3 => ⟨_, rfl, ?_⟩
    refine semU_store (o := 0) (vs := l[k].cells) (by kernel_rfl) (by kernel_rfl) rfl hb3 (by simp [Gt.cells]) (by intro u hu; simp [Gt.cells] at hu; rcases hu with rfl | rfl | rfl <;> rfl) fun w4 ht4 hb4 => ?_
    obtain ⟨E4, hb4⟩ : ∃ E, Blk w4 g l[k].cells E := ⟨_, by simpa [putAt, Gt.cells] using hb4⟩
    have hgs := hN3.at_
    have hm4 : Mod NoB w w4 := (hm.tr hN3.mod).fresh ht4.mod fun z e => by have := hm.size; have : z = g := e; omega
    refine ⟨fun l' w' => match l' with | [.b t] => w' = w4 ∧ (t = false ↔ RG1 l k hk') | _ => False, ?_, ?_⟩
    · refine ⟨l[k].c, hb4.rd1 (o := 0) rfl, condK_i (fun h => ⟨rfl, ?_⟩) fun h1 => ?_⟩
      · simp only [Bool.true_eq_false, false_iff]
        intro hR
        have h : l[k].c ≤ y := by simpa using h
        rcases Nat.eq_zero_or_pos k with h0 | h0
        · have := hy0 h0; have := hR.1; omega
        · have := hyk h0 (by omega); have := hR.2.2.1 h0; omega
      refine ⟨l[k].c, hb4.rd1 (o := 0) rfl, condK_i (fun h => ⟨rfl, ?_⟩) fun h2 => ?_⟩
      · simp only [Bool.true_eq_false, false_iff]
        intro hR
        have := hR.2.1; simp at h; omega
      refine ⟨l[k].s, hb4.rd1 (o := 1) rfl, condK_i (fun h => ⟨rfl, ?_⟩) fun h3 => ?_⟩
      · simp only [Bool.true_eq_false, false_iff]
        intro hR
        have := hR.2.2.2.1; simp at h; omega
      refine ⟨l[k].p, hb4.rd1 (o := 2) rfl, rfl, ?_⟩
      have h1 : y < l[k].c := by simp at h1; omega
      have h2 : l[k].c ≤ 8 := by simp at h2; omega
      have h3 : l[k].s.len = 32 := by simp at h3; omega
      constructor
      · intro h
        have h : l[k].p.length ≤ 64 := by simp at h; omega
        refine ⟨?_, h2, fun h0 => ?_, h3, h⟩
        · rcases Nat.eq_zero_or_pos k with h0 | h0
          · have := hy0 h0; omega
          · have := hyk h0 (by omega); have := (hgo (k - 1) (by omega) (by omega)).1; omega
        · have := hyk h0 (by omega); omega
      · intro hR
        have := hR.2.2.2.2; simp; omega
    · rintro t w5 ⟨rfl, ht⟩
      refine condK_i (fun h => ?_) fun h => ?_
      · subst h
        exact RB.no (fun hR => by have := ht.2 (hR k hk'); cases this) hm4
      · have hR := ht.1 h
        refine ⟨l[k].c, hb4.rd1 (o := 0) rfl, ⟨k + 1, wrap_nat (by omega), by omega, fun h => by omega, fun _ _ => rfl, fun i hi hik => ?_, hm4⟩, ?_⟩
        · rcases Nat.lt_or_ge i k with h1 | h1
          · exact hgo i hi h1
          · obtain rfl : i = k := by omega
            exact hR
        · rw [wrap_nat (by omega)]; (try simp only []); omega
  · have hk' : k = l.length := by simp at hge; omega
    subst hk'
    exact RB.yes (fun i h => hgo i h h) hm
theorem c_gRight (hg : GrAt w s l ks) (hn : l.length ≤ 1000000) : Calls Tryz.prog 17 #[.slice s.a s.len s.cap] w (Ret (RB (RGr l) w)) := by
  refine call17 _ ?_
  unfold sh17
  refine callK_ret (c_tright hg hn) ?_
  rintro v w1 ⟨b, rfl, h⟩
  exact ⟨b, rfl, b, rfl, h⟩
def FG (l : List Gt) (ks : List (List UInt8)) (id : Int) (w : World) (v : Value) (w' : World) : Prop :=
  ∃ (g : Gt) (b : Bool), v = .tuple #[.agg g.cells.toArray, .bool b] ∧ Mod NoB w w' ∧ ((b = false ∧ SlRd w' g.s 1 (bys []) ∧ ∀ i (h : i < l.length), l[i].c ≠ id) ∨ (b = true ∧ ∃ i, ∃ (h : i < l.length) (h' : i < ks.length), l[i].c = id ∧ (∀ j (hj : j < i), (l[j]'(by omega)).c ≠ id) ∧ SlRd w' g.s 1 (bys ks[i]) ∧ ∀ z, g.s.blk = some z → z < w'.heap.size))
theorem c_copyB {s : Slc} {l : List UInt8} (hs : SlRd w s 1 (bys l)) (hn : l.length ≤ 1000000) : Calls Tryz.prog 88 #[.slice s.a s.len s.cap] w (Ret fun v w' => ∃ x : Slc, v = x.val ∧ Sh.Own w' x 1 (bys l) ∧ FB w x ∧ Mod NoB w w') := by
  refine call88 _ ?_
  unfold sh88
  obtain ⟨i5', h51, h52, h53, h54⟩ := i5
  have hl := rd_len8 hs
  exact sem_append (s := ⟨none, 0, 0⟩) u26 h51 h52 h53 rfl h54 (own_nil _ 1) hs (bys_one _) (by simp only []; omega) (by simp only []; omega) fun x w1 ho hlen hblk hm => ⟨x, rfl, x, rfl, ho, (FB.nil w).step (Nat.le_refl _) hblk, (FB.nil w).mod (Mod.refl _ _) hm⟩
theorem c_copyG {g : Gt} {k : List UInt8} (hs : SlRd w g.s 1 (bys k)) (hn : k.length ≤ 1000000) : Calls Tryz.prog 46 #[.agg g.cells.toArray] w (Ret fun v w' => ∃ x : Slc, v = .agg (Gt.cells ⟨g.c, x, g.p⟩).toArray ∧ Sh.Own w' x 1 (bys k) ∧ FB w x ∧ Mod NoB w w') := by
  obtain ⟨ig, i1, i2, i3, i4⟩ := iGrant
  refine call46 g.c g.s g.p ?_
  unfold sh46
  refine sem_box (l := g.cells) rfl fun p w1 hN1 hb1 => ⟨_, rfl, ?_⟩
  refine sem_alloc (l := g0.cells) i1 i2 rfl fun q w2 hN2 hb2 => ⟨_, rfl, ?_⟩
  have e1 := hN1.at_; have e2 := hN2.at_; have hpl := hb1.lt; have hql := hb2.lt
  have hM2 := hN1.mod.tr hN2.mod
  refine ⟨g.s, (hb1.no hN2.mod).rd1 (o := 1) rfl, ?_⟩
  refine callK_ret (c_copyB (hs.no hM2) hn) ?_
  rintro v w3 ⟨x, rfl, ho3, hf3, hm3⟩
  refine ⟨x, rfl, ?_⟩
  have hp3 := (hb1.no hN2.mod).no hm3
  have hs1 := hN1.mod.size; have hs2 := hN2.mod.size; have hs3 := hm3.size
  refine semU_store1 (b := p) (o := 1) (by kernel_rfl) (by kernel_rfl) rfl hp3 (by simp [Gt.cells]) fun w4 ht4 hp4 => ?_
  have hp4 : Blk w4 p (Gt.cells ⟨g.c, x, g.p⟩) _ := hp4
  refine ⟨g.c, x, g.p, hp4.rd fun j v hj => by simpa [Gt.cells, Slc.val] using hj, ?_⟩
  have hq4 := ((hb2.no hm3).mod ht4.mod (fun e => by have : q = p := e; omega))
  refine semU_store (o := 0) (vs := Gt.cells ⟨g.c, x, g.p⟩) (by kernel_rfl) (by kernel_rfl) rfl hq4 (by simp [Gt.cells, g0]) (by intro u hu; simp [Gt.cells] at hu; rcases hu with rfl | rfl | rfl <;> rfl) fun w5 ht5 hq5 => ?_
  rw [putg] at hq5
  refine ⟨g.c, x, g.p, hq5.rd fun j v hj => by simpa [Gt.cells, Slc.val] using hj, ?_⟩
  have hxp : ∀ z, x.blk = some z → z ≠ p ∧ z ≠ q := fun z hz => by have := hf3 z hz; omega
  have hx5 := (ho3.mod ht4.mod fun z hz e => (hxp z hz).1 e).mod ht5.mod fun z hz e => (hxp z hz).2 e
  exact ⟨x, rfl, hx5, hf3.le hM2.size, ((hM2.tr hm3).fresh ht4.mod fun z e => by have : z = p := e; omega).fresh ht5.mod fun z e => by have : z = q := e; omega⟩
theorem c_rFind {id : Int} (hg : GrAt w s l ks) (hn : l.length ≤ 1000000) (hk : ∀ k ∈ ks, k.length ≤ 1000000) : Calls Tryz.prog 24 #[.slice s.a s.len s.cap, .int .i64 id] w (Ret (FG l ks id w)) := by
  have hlen := rd_lenG hg.rd
  obtain ⟨ig, i1, i2, i3, i4⟩ := iGrant
  refine call24 _ _ ?_
  unfold sh24
  refine sem_alloc (l := g0.cells) i1 i2 rfl fun q w1 hN1 hb1 => ⟨_, rfl, ?_⟩
  have e1 := hN1.at_
  refine ⟨fun l' w' => match l' with | [.i _ x] => ∃ k : Nat, x = k ∧ k ≤ l.length ∧ (∀ i (h : i < l.length), i < k → l[i].c ≠ id) ∧ w' = w1 | _ => False, fun l' _ => match l' with | [.i _ x] => (l.length - x).toNat | _ => 0, ⟨0, rfl, by omega, fun i h h0 => by omega, rfl⟩, ?_⟩
  rintro x w2 ⟨k, rfl, hkl, hgo, rfl⟩
  refine condK_i (fun hlt => ?_) fun hge => ?_
  · have hk' : k < l.length := by simp at hlt; omega
    have hk2 : k < ks.length := by rw [← hg.len]; exact hk'
    have hg2 := hg.no hN1.mod
    obtain ⟨a, ea, hr⟩ := rd_g hg2.rd hk'
    have hb : (0 : Int) ≤ (k : Int) ∧ (k : Int) < (s.len : Nat) := ⟨by omega, by omega⟩
    rw [ea]
    simp only [Int.toNat_natCast]
    refine ⟨hb, l[k].c, rd_nth hr 0 rfl, condK_i (fun h => ?_) fun h => ⟨⟨k + 1, wrap_nat (by omega), by omega, fun i hi hik => ?_, trivial⟩, ?_⟩⟩
    · refine ⟨hb, l[k].c, l[k].s, l[k].p, hr, ?_⟩
      refine callK_ret (c_copyG (hg2.key k hk' hk2).1 (hk _ (List.getElem_mem hk2))) ?_
      rintro v w3 ⟨x, rfl, hx1, hx2, hm3⟩
      refine ⟨l[k].c, x, l[k].p, rfl, ?_⟩
      have hs3 := hm3.size
      have hql := hb1.lt
      refine semU_store (o := 0) (vs := Gt.cells ⟨l[k].c, x, l[k].p⟩) (by kernel_rfl) (by kernel_rfl) rfl (hb1.no hm3) (by simp [Gt.cells, g0]) (by intro u hu; simp [Gt.cells] at hu; rcases hu with rfl | rfl | rfl <;> rfl) fun w4 ht4 hq4 => ?_
      rw [putg] at hq4
      refine ⟨l[k].c, x, l[k].p, hq4.rd fun j v hj => by simpa [Gt.cells, Slc.val] using hj, ?_⟩
      have hx4 := hx1.mod ht4.mod fun z hz e => by have := hx2 z hz; have : z = q := e; omega
      exact ⟨⟨l[k].c, x, l[k].p⟩, true, rfl, (hN1.mod.tr hm3).fresh ht4.mod fun z e => by (have : z = q := e); omega, .inr ⟨rfl, k, hk', hk2, by simpa using h, fun j hj => hgo j (by omega) hj, hx4.rd, fun z hz => hx4.lt hz⟩⟩
    · rcases Nat.lt_or_ge i k with h1 | h1
      · exact hgo i hi h1
      · obtain rfl : i = k := by omega
        simpa using h
    · rw [wrap_nat (by omega)]; (try simp only []); omega
  · have hk' : k = l.length := by simp at hge; omega
    subst hk'
    refine semU_store (o := 0) (vs := g0.cells) (by kernel_rfl) (by kernel_rfl) rfl hb1 (by simp [Gt.cells, g0]) (by intro u hu; simp [Gt.cells] at hu; rcases hu with rfl | rfl | rfl <;> rfl) fun w4 ht4 hq4 => ?_
    rw [putg] at hq4
    refine ⟨0, ⟨none, 0, 0⟩, [], hq4.rd fun j v hj => by simpa [Gt.cells, g0, Slc.val] using hj, ?_⟩
    exact ⟨g0, false, rfl, hN1.mod.fresh ht4.mod fun z e => by have : z = q := e; omega, .inl ⟨rfl, rd_nil _ _, fun i h => hgo i h h⟩⟩
theorem c_tfind {id : Int} (hg : GrAt w s l ks) (hn : l.length ≤ 1000000) :
    Calls Tryz.prog 41 #[.agg #[.slice s.a s.len s.cap], .int .i64 id] w (Ret (FG l ks id w)) := by
  have hlen := rd_lenG hg.rd
  obtain ⟨ig, i1, i2, i3, i4⟩ := iGrant
  refine call41 _ _ ?_
  unfold sh41
  refine sem_box (l := [s.val]) rfl fun tb w1 hN1 hb1 => ⟨_, rfl, ?_⟩
  refine sem_box (l := [.int .i64 id]) rfl fun cb w2 hN2 hb2 => ⟨_, rfl, ?_⟩
  refine sem_alloc (l := g0.cells) i1 i2 rfl fun q w3 hN3 hb3 => ⟨_, rfl, ?_⟩
  have hM3 := (hN1.mod.tr hN2.mod).tr hN3.mod
  have hb13 := (hb1.no hN2.mod).no hN3.mod
  have hb23 := hb2.no hN3.mod
  have hg3 := hg.no hM3
  have e1 := hN1.at_; have e2 := hN2.at_; have e3 := hN3.at_
  have z1 := hN1.mod.size; have z2 := hN2.mod.size; have z3 := hN3.mod.size
  have hql := hb3.lt
  refine ⟨s, hb13.rd1 (o := 0) rfl, ?_⟩
  have idx : Calls Tryz.prog 82 #[.slice s.a s.len s.cap, .func (.func 83) #[] #[.pointer (some ⟨cb, 0, none⟩)]] w3 (Ret fun v w' => ∃ n : Int, v = .int .i64 n ∧ Mod NoB w3 w' ∧ ((n < 0 ∧ ∀ i (h : i < l.length), l[i].c ≠ id) ∨ ∃ i, ∃ (h : i < l.length), n = (i : Nat) ∧ l[i].c = id ∧ ∀ j (hj : j < i), (l[j]'(by omega)).c ≠ id)) := by
    refine call82 _ _ ?_
    unfold sh82
    refine ⟨fun l' w' => match l' with | [.i _ x] => ∃ k : Nat, x = k ∧ k ≤ l.length ∧ (∀ i (h : i < l.length), i < k → l[i].c ≠ id) ∧ Mod NoB w3 w' | _ => False, fun l' _ => match l' with | [.i _ x] => (l.length - x).toNat | _ => 0, ⟨0, rfl, by omega, fun i h h0 => by omega, Mod.refl _ _⟩, ?_⟩
    rintro x w4 ⟨k, rfl, hkl, hgo, hm4⟩
    refine condK_i (fun hlt => ?_) fun hge => ?_
    · have hk' : k < l.length := by simp at hlt; omega
      obtain ⟨a, ea, hr⟩ := rd_g (hg3.no hm4).rd hk'
      rw [ea]
      simp only [Int.toNat_natCast]
      refine ⟨⟨by omega, by omega⟩, l[k].c, l[k].s, l[k].p, hr, ?_⟩
      refine callFV_of (by kernel_rfl) ?_
      refine callK_ret (Q := fun v w' => v = .bool (l[k].c == id) ∧ Mod NoB w4 w') ?_ ?_
      · refine call83 l[k].c l[k].s l[k].p _ ?_
        unfold sh83
        refine sem_box (l := l[k].cells) rfl fun gb w5 hN5 hb5 => ⟨_, rfl, ?_⟩
        exact ⟨l[k].c, hb5.rd1 (o := 0) rfl, id, ((hb23.no hm4).no hN5.mod).rd1 (o := 0) rfl, rfl, hN5.mod⟩
      · rintro v w5 ⟨rfl, hm5⟩
        refine ⟨_, rfl, condK_i (fun h => ⟨_, rfl, hm4.tr hm5, .inr ⟨k, hk', rfl, by simpa using h, fun j hj => hgo j (by omega) hj⟩⟩) fun h => ⟨⟨k + 1, wrap_nat (by omega), by omega, fun i hi hik => ?_, hm4.tr hm5⟩, ?_⟩⟩
        · rcases Nat.lt_or_ge i k with h1 | h1
          · exact hgo i hi h1
          · obtain rfl : i = k := by omega
            simpa using h
        · rw [wrap_nat (by omega)]; (try simp only []); omega
    · have hk' : k = l.length := by simp at hge; omega
      subst hk'
      exact ⟨-1, rfl, hm4, .inl ⟨by omega, fun i h => hgo i h h⟩⟩
  refine callK_ret idx ?_
  rintro v w4 ⟨n, rfl, hm4, hres⟩
  refine ⟨n, rfl, ?_⟩
  have z4 := hm4.size
  have hM4 := hM3.tr hm4
  have hq4 := hb3.no hm4
  refine condK_i (fun hlt => ?_) fun hge => ?_
  · have hlt : n < 0 := by simpa using hlt
    refine semU_store (o := 0) (vs := g0.cells) (by kernel_rfl) (by kernel_rfl) rfl hq4 (by simp [Gt.cells, g0]) (by intro u hu; simp [Gt.cells] at hu; rcases hu with rfl | rfl | rfl <;> rfl) fun w5 ht5 hq5 => ?_
    rw [putg] at hq5
    refine ⟨0, ⟨none, 0, 0⟩, [], hq5.rd fun j v hj => by simpa [Gt.cells, g0, Slc.val] using hj, ?_⟩
    refine ⟨g0, false, rfl, hM4.fresh ht5.mod fun z e => by (have : z = q := e); omega, .inl ⟨rfl, rd_nil _ _, ?_⟩⟩
    rcases hres with ⟨_, h⟩ | ⟨i, h, rfl, _⟩
    · exact h
    · omega
  · have hge : ¬ n < 0 := by simpa using hge
    rcases hres with ⟨h, _⟩ | ⟨i, hi, rfl, h1, h2⟩
    · omega
    have hi2 : i < ks.length := by rw [← hg.len]; exact hi
    have hg4 := hg.no hM4
    obtain ⟨a, ea, hr⟩ := rd_g hg4.rd hi
    refine ⟨s, (hb13.no hm4).rd1 (o := 0) rfl, ⟨by omega, by omega⟩, ?_⟩
    rw [ea]
    simp only [Int.toNat_natCast]
    refine ⟨l[i].c, l[i].s, l[i].p, hr, ?_⟩
    refine semU_store (o := 0) (vs := l[i].cells) (by kernel_rfl) (by kernel_rfl) rfl hq4 (by simp [Gt.cells, g0]) (by intro u hu; simp [Gt.cells] at hu; rcases hu with rfl | rfl | rfl <;> rfl) fun w5 ht5 hq5 => ?_
    rw [putg] at hq5
    refine ⟨l[i].c, l[i].s, l[i].p, hq5.rd fun j v hj => by simpa [Gt.cells, Slc.val] using hj, ?_⟩
    have hm5 : Mod NoB w w5 := hM4.fresh ht5.mod fun z e => by (have : z = q := e); omega
    have hg5 := hg.no hm5
    exact ⟨l[i], true, rfl, hm5, .inr ⟨rfl, i, hi, hi2, h1, h2, hg5.key i hi hi2⟩⟩
theorem c_gFind {id : Int} (hg : GrAt w s l ks) (hn : l.length ≤ 1000000) (hk : ∀ k ∈ ks, k.length ≤ 1000000) :
    Calls Tryz.prog 14 #[.slice s.a s.len s.cap, .int .i64 id] w (Ret (FG l ks id w)) := by
  obtain ⟨ig, i1, i2, i3, i4⟩ := iGrant
  refine call14 _ _ ?_
  unfold sh14
  refine sem_alloc (l := g0.cells) i1 i2 rfl fun q w1 hN1 hb1 => ⟨_, rfl, ?_⟩
  have hg1 := hg.no hN1.mod
  refine callK_ret (c_tfind hg1 hn) ?_
  rintro v w2 ⟨g, b, rfl, hm2, hres⟩
  refine ⟨g.c, g.s, g.p, b, rfl, ?_⟩
  refine sem_alloc (l := g0.cells) i1 i2 rfl fun r w3 hN3 hb3 => ⟨_, rfl, ?_⟩
  have e1 := hN1.at_; have e3 := hN3.at_
  have z1 := hN1.mod.size; have z2 := hm2.size; have z3 := hN3.mod.size
  have hql := hb1.lt
  have hM2 := hN1.mod.tr hm2
  have hM3 := hM2.tr hN3.mod
  have hone : ∀ g : Gt, ∀ u ∈ g.cells, u.oneCell' = true := by intro g u hu; simp [Gt.cells] at hu; rcases hu with rfl | rfl | rfl <;> rfl
  refine semU_store (o := 0) (vs := g.cells) (by kernel_rfl) (by kernel_rfl) rfl hb3 (by simp [Gt.cells, g0]) (hone g) fun w4 ht4 hr4 => ?_
  rw [putg] at hr4
  refine ⟨g.s, hr4.rd1 (o := 1) rfl, ?_⟩
  have hM4 : Mod NoB w w4 := hM3.fresh ht4.mod fun z e => by (have : z = r := e); omega
  have hq4 := ((hb1.no hm2).no hN3.mod).mod ht4.mod (fun e => by have : q = r := e; omega)
  have z4 := ht4.size
  have fin : ∀ (kk : List UInt8), kk.length ≤ 1000000 → SlRd w4 g.s 1 (bys kk) → (∀ (x : Slc) w', SlRd w' x 1 (bys kk) → (∀ z, x.blk = some z → z < w'.heap.size) → Mod NoB w w' → FG l ks id w (.tuple #[.agg (Gt.cells ⟨g.c, x, g.p⟩).toArray, .bool b]) w') →
      callK Tryz.prog 20 [.slice g.s.a g.s.len g.s.cap] w4 (panR (Ret (FG l ks id w))) fun v3 w5 => ∃ x2 : Slc, v3 = (.slice x2.a x2.len x2.cap) ∧ semU Tryz.prog (storeVar 22 ((⟨r, 0, none⟩ : Addr).add 1) (.slice x2.a x2.len x2.cap)) w5 fun w6 => ∃ xa : Int, ∃ xb1 : Slc, ∃ xc : List UInt8, Rd w6 ⟨r, 0, none⟩ [(.int .i64 xa), (.slice xb1.a xb1.len xb1.cap), (.string ⟨(xc).toArray⟩)] ∧ semU Tryz.prog (storeVar 29 ⟨q, 0, none⟩ (.agg #[(.int .i64 xa), (.slice xb1.a xb1.len xb1.cap), (.string ⟨(xc).toArray⟩)])) w6 fun w7 => ∃ xa1 : Int, ∃ xb2 : Slc, ∃ xc1 : List UInt8, Rd w7 ⟨q, 0, none⟩ [(.int .i64 xa1), (.slice xb2.a xb2.len xb2.cap), (.string ⟨(xc1).toArray⟩)] ∧ Ret (FG l ks id w) (.returned (.tuple #[(.agg #[(.int .i64 xa1), (.slice xb2.a xb2.len xb2.cap), (.string ⟨(xc1).toArray⟩)]), (.bool b)])) w7 := by
    intro kk hkk hrd hF
    refine callK_ret (c_clone hrd (by omega)) ?_
    rintro v w5 ⟨x, rfl, ho5, hf5, hm5⟩
    refine ⟨x, rfl, ?_⟩
    have z5 := hm5.size
    have hf5 : FB w4 x := FB.of hf5
    have hr5 := hr4.no hm5
    refine semU_store1 (b := r) (o := 1) (by kernel_rfl) (by kernel_rfl) rfl hr5 (by simp [Gt.cells]) fun w6 ht6 hr6 => ?_
    have hr6 : Blk w6 r (Gt.cells ⟨g.c, x, g.p⟩) _ := hr6
    refine ⟨g.c, x, g.p, hr6.rd fun j v hj => by simpa [Gt.cells, Slc.val] using hj, ?_⟩
    have hrl := hr4.lt
    have hql4 := hq4.lt
    have hq6 := (hq4.no hm5).mod ht6.mod (fun e => by have : q = r := e; omega)
    refine semU_store (o := 0) (vs := Gt.cells ⟨g.c, x, g.p⟩) (by kernel_rfl) (by kernel_rfl) rfl hq6 (by simp [Gt.cells, g0]) (hone _) fun w7 ht7 hq7 => ?_
    rw [putg] at hq7
    refine ⟨g.c, x, g.p, hq7.rd fun j v hj => by simpa [Gt.cells, Slc.val] using hj, ?_⟩
    have hx7 := (ho5.mod ht6.mod fun z hz e => by have := hf5 z hz; (have : z = r := e); omega).mod ht7.mod fun z hz e => by have := hf5 z hz; (have : z = q := e); omega
    exact hF x w7 hx7.rd (fun z hz => hx7.lt hz) (((hM4.tr hm5).fresh ht6.mod fun z e => by (have : z = r := e); omega).fresh ht7.mod fun z e => by (have : z = q := e); omega)
  have hM24 : Mod NoB w2 w4 := hN3.mod.fresh ht4.mod fun z e => by (have : z = r := e); omega
  rcases hres with ⟨rfl, h0, h1⟩ | ⟨rfl, i, hi, hi2, h1, h2, h3, h4⟩
  · exact fin [] (by simp) (h0.no hM24) fun x w' g1 g2 g3 => ⟨⟨g.c, x, g.p⟩, false, rfl, g3, .inl ⟨rfl, g1, h1⟩⟩
  · exact fin _ (hk _ (List.getElem_mem hi2)) (h3.no hM24) fun x w' g1 g2 g3 => ⟨⟨g.c, x, g.p⟩, true, rfl, g3, .inr ⟨rfl, i, hi, hi2, h1, h2, g1, g2⟩⟩
end
end Go.Proofs.YtdjmobighhfogaaGreatDoor
end
section
namespace Go.Proofs.YtdjmobighhfogaaGreatDoor
open Go Go.Sh Go.ChangeShapes Go.WideShapes Go.ChangeAt Go.RowKit
section
variable {H : Type} {enc : TypeId × Value → H} {W : World} {spare : Nat → Bool} {held : Bool} {fuel : Nat}
theorem rowk_of {t e : TypeId} {k : Nat} {a : Option Addr} {len cap : Nat} {x : DataW H × List MemPlace} (ht : Tryz.prog.underlying t = some (.slice e)) (hc : Tryz.prog.cellsOf e = k) (hk : 0 < k) (h : DataW.trod enc Tryz.prog W 0 (fun _ => true) held fuel t [.slice a len cap] = some x) :
    ∃ C : Nat → List Value, SlRd W ⟨a, len, cap⟩ k ((List.range len).flatMap C) ∧ (∀ i, i < len → (C i).length = k) ∧ (∀ y, Slc.blk ⟨a, len, cap⟩ = some y → y < W.heap.size) ∧ (∀ i, i < len → ∃ (n : Nat) (y : DataW H × List MemPlace), DataW.trod enc Tryz.prog W 0 (fun _ => true) held n e (C i) = some y) ∧
      ((x.1 = .nil ∧ cap = 0) ∨ ∃ es ss, x.1 = .slice es ss ∧ es.length + ss.length = cap) := by
  rcases Deep.open_slice ht h with ⟨hcs, hx⟩ | ⟨ad, l, c, m, n, D, Pl, hcs, _, hl, _, hm, hx, hV⟩
  · cases hcs
    exact ⟨fun _ => [], ⟨by simp, Nat.le_refl _, .inl rfl⟩, fun i hi => by omega, fun y hy => by simp at hy, fun i hi => by omega, .inl ⟨by rw [hx], rfl⟩⟩
  · cases hcs
    simp only [if_true] at hm
    rw [hc] at hV hx
    obtain ⟨C, hC⟩ := Deep.choose_lt (α := List Value) hV
    have hc1 : ∀ i, i < m → (C i).length = k ∧ ∀ j, j < k → W.cell? ((ad.add (i * k)).add j) = (C i)[j]? := fun i hi => by
      obtain ⟨_, g1, g2⟩ := World.cells?_some (hC i hi).1
      exact ⟨g1, g2⟩
    have hfl : ∀ n, n ≤ m → ((List.range n).flatMap C).length = n * k ∧ ∀ i j, i < n → j < k → ((List.range n).flatMap C)[i * k + j]? = (C i)[j]? := by
      intro n hn
      induction n with
      | zero => exact ⟨by simp, fun i j hi => by omega⟩
      | succ n ih =>
        obtain ⟨g1, g2⟩ := ih (by omega)
        have g3 := (hc1 n (by omega)).1
        have e : (List.range (n + 1)).flatMap C = (List.range n).flatMap C ++ C n := by rw [List.range_succ, List.flatMap_append]; simp
        rw [e]
        refine ⟨by rw [List.length_append, g1, g3, Nat.succ_mul], fun i j hi hj => ?_⟩
        rcases Nat.lt_or_ge i n with hi' | hi'
        · rw [List.getElem?_append_left, g2 i j hi' hj]
          rw [g1]
          have := Nat.mul_le_mul_right k (show i + 1 ≤ n by omega)
          rw [Nat.succ_mul] at this; omega
        · obtain rfl : i = n := by omega
          rw [List.getElem?_append_right (by rw [g1]; omega), g1, Nat.add_sub_cancel_left]
    obtain ⟨f1, f2⟩ := hfl len (by omega)
    refine ⟨C, ⟨f1, hl, .inr ⟨ad, rfl, fun j v hj => ?_⟩⟩, fun i hi => (hc1 i (by omega)).1, fun y hy => ?_, fun i hi => ⟨n, _, (hC i (by omega)).2⟩, .inr ⟨_, _, by rw [hx], by simp; omega⟩⟩
    · have hj' : j < len * k := by
        rcases Nat.lt_or_ge j (len * k) with h | h
        · exact h
        · rw [List.getElem?_eq_none (by rw [f1]; exact h)] at hj; cases hj
      have hi : j / k < len := (Nat.div_lt_iff_lt_mul hk).2 hj'
      have hd : (j / k) * k + j % k = j := by rw [Nat.mul_comm]; exact Nat.div_add_mod j k
      have := f2 (j / k) (j % k) hi (Nat.mod_lt _ hk)
      rw [hd, hj] at this
      have h2 := (hc1 (j / k) (by omega)).2 (j % k) (Nat.mod_lt _ hk)
      rw [Go.Sh.Addr.add_add', hd] at h2
      rw [h2, ← this]
    · unfold Slc.blk at hy
      split at hy
      · cases hy
      · next hc0 =>
        simp at hy; subst hy
        have hc0' : ¬ cap = 0 := hc0
        obtain ⟨g1, g2⟩ := hc1 0 (by omega)
        have g3 := g2 0 hk
        rw [List.getElem?_eq_getElem (by omega)] at g3
        have := World.block_lt_of_cell? W _ g3
        simpa using this
def fieldAt (fs : Array Field) (i : Nat) (t : TypeDesc) : Prop := ∃ f, fs[i]? = some f ∧ Tryz.prog.underlying f.type = some t ∧ f.offset = i ∧ Tryz.prog.cellsOf f.type = 1
theorem fieldAt_mk {fs : Array Field} {i : Nat} {t : TypeDesc} (h : i < fs.size) (h1 : Tryz.prog.underlying (fs[i]'h).type = some t) (h2 : (fs[i]'h).offset = i) (h3 : Tryz.prog.cellsOf (fs[i]'h).type = 1) : fieldAt fs i t :=
  ⟨_, Array.getElem?_eq_getElem h, h1, h2, h3⟩
theorem field_of {fs : Array Field} {i : Nat} {t : TypeDesc} {C : List Value} {xs : List (DataW H × List MemPlace)} {n : Nat} (hF : fieldAt fs i t) (hi : i < C.length) (hxs : xs.length = fs.size)
    (hf : ∀ (i : Nat) (f : Field), fs[i]? = some f → DataW.trod enc Tryz.prog W 0 spare held n f.type ((C.drop f.offset).take (Tryz.prog.cellsOf f.type)) = xs[i]?) : ∃ (u : TypeId) (y : DataW H × List MemPlace), Tryz.prog.underlying u = some t ∧ DataW.trod enc Tryz.prog W 0 spare held n u [C[i]] = some y := by
  obtain ⟨f, a1, a2, a3, a4⟩ := hF
  have g := hf i f a1
  have hs : i < fs.size := by rcases Nat.lt_or_ge i fs.size with h | h; exact h; rw [Array.getElem?_eq_none h] at a1; cases a1
  rw [a3, a4, List.getElem?_eq_getElem (by omega)] at g
  have e : (C.drop i).take 1 = [C[i]] := by rw [List.drop_eq_getElem_cons hi]; rfl
  rw [e] at g
  exact ⟨f.type, _, a2, g⟩
theorem slc_of {t e : TypeId} {n : Nat} {v : Value} {y : DataW H × List MemPlace} (ht : Tryz.prog.underlying t = some (.slice e)) (h : DataW.trod enc Tryz.prog W 0 spare held n t [v] = some y) : ∃ s : Slc, v = s.val := by
  rcases Deep.open_slice ht h with ⟨hcs, _⟩ | ⟨ad, l, c, _, _, _, _, hcs, _⟩
  · simp at hcs; exact ⟨⟨none, 0, 0⟩, hcs⟩
  · simp at hcs; exact ⟨⟨some ad, l, c⟩, hcs⟩
theorem cellsG : Tryz.prog.cellsOf 29 = 3 := by kernel_rfl
theorem cellsPk : Tryz.prog.cellsOf 26 = 3 := by kernel_rfl
theorem uGrantG : Tryz.prog.underlying 29 = some (.struct (Tryz.prog.fieldsOf 29)) := by kernel_rfl
theorem uPktG : Tryz.prog.underlying 26 = some (.struct (Tryz.prog.fieldsOf 26)) := by kernel_rfl
theorem list3 {α : Type} {l : List α} (h : l.length = 3) : ∃ a b c, l = [a, b, c] := by
  match l, h with
  | [a, b, c], _ => exact ⟨a, b, c, rfl⟩
theorem grant_of {n : Nat} {C : List Value} (hl : C.length = 3) {y : DataW H × List MemPlace} (h : DataW.trod enc Tryz.prog W 0 (fun _ => true) held n 29 C = some y) : ∃ p : Gt × List UInt8, C = p.1.cells ∧ SlRd W p.1.s 1 (bys p.2) ∧ ∀ z, p.1.s.blk = some z → z < W.heap.size := by
  obtain ⟨c0, c1, c2, rfl⟩ := list3 hl
  have g (i : Nat) (h : Nat.blt i (Tryz.prog.fieldsOf 29).size = true) : i < (Tryz.prog.fieldsOf 29).size := Nat.le_of_ble_eq_true h
  have h0 : fieldAt (Tryz.prog.fieldsOf 29) 0 (.int .i64) := fieldAt_mk (g 0 (by kernel_rfl)) (by kernel_rfl) (by kernel_rfl) (by kernel_rfl)
  have h1 : fieldAt (Tryz.prog.fieldsOf 29) 1 (.slice 5) := fieldAt_mk (g 1 (by kernel_rfl)) (by kernel_rfl) (by kernel_rfl) (by kernel_rfl)
  have h2 : fieldAt (Tryz.prog.fieldsOf 29) 2 .string := fieldAt_mk (g 2 (by kernel_rfl)) (by kernel_rfl) (by kernel_rfl) (by kernel_rfl)
  obtain ⟨xs, m, _, hx, hlen, hxs, hf⟩ := DataW.trod_struct uGrantG h
  obtain ⟨u0, y0, a0, b0⟩ := field_of h0 (by omega) hxs hf
  obtain ⟨u1, y1, a1, b1⟩ := field_of h1 (by omega) hxs hf
  obtain ⟨u2, y2, a2, b2⟩ := field_of h2 (by omega) hxs hf
  replace b0 : DataW.trod enc Tryz.prog W 0 (fun _ => true) held m u0 [c0] = some y0 := b0
  replace b1 : DataW.trod enc Tryz.prog W 0 (fun _ => true) held m u1 [c1] = some y1 := b1
  replace b2 : DataW.trod enc Tryz.prog W 0 (fun _ => true) held m u2 [c2] = some y2 := b2
  obtain ⟨k0, e0, -, -⟩ := DataW.trod_int a0 b0
  obtain ⟨s1, rfl⟩ := slc_of a1 b1
  obtain ⟨s2, e2, -, -⟩ := DataW.trod_string a2 b2
  obtain ⟨V5, p1, p2, p3, _⟩ := row_of a1 cells5 b1
  obtain ⟨l5, hl5⟩ := map_get (fun c : UInt8 => Value.int .u8 c.toNat) 0 V5 s1.len fun i hi => by
    obtain ⟨n, y, hy⟩ := p3 i hi
    exact u8_of hy
  rw [hl5] at p1
  simp at e0 e2
  exact ⟨(⟨k0, s1, s2.data.toList⟩, l5), by rw [e0, e2]; simp [Gt.cells], p1, p2⟩
theorem grants_of {a : Option Addr} {len cap : Nat} {x : DataW H × List MemPlace} (h : DataW.trod enc Tryz.prog W 0 (fun _ => true) held fuel 24 [.slice a len cap] = some x) : ∃ rows ks, GrAt W ⟨a, len, cap⟩ rows ks := by
  obtain ⟨C, h1, h2, h3, h4, h5⟩ := rowk_of uGrants cellsG (by omega) h
  have hall : ∀ i, i < len → ∃ p : Gt × List UInt8, C i = p.1.cells ∧ SlRd W p.1.s 1 (bys p.2) ∧ ∀ z, p.1.s.blk = some z → z < W.heap.size := fun i hi => by
    obtain ⟨n, y, hy⟩ := h4 i hi
    exact grant_of (h2 i hi) hy
  have : Inhabited (Gt × List UInt8) := ⟨(g0, [])⟩
  obtain ⟨f, hf⟩ := Deep.choose_lt (α := Gt × List UInt8) hall
  refine ⟨(List.range len).map fun i => (f i).1, (List.range len).map fun i => (f i).2, ?_, h3, by simp, fun i hi hi' => ?_⟩
  · have e : (List.range len).flatMap C = gsC ((List.range len).map fun i => (f i).1) := by
      show _ = ((List.range len).map fun i => (f i).1).flatMap Gt.cells
      rw [List.flatMap_map]
      exact Deep.flatMap_congr_range fun i hi => (hf i hi).1
    rw [← e]; exact h1
  · simp only [List.getElem_map, List.getElem_range]
    exact (hf i (by simpa using hi)).2
theorem packet_of {n : Nat} {C : List Value} (hl : C.length = 3) {y : DataW H × List MemPlace} (h : DataW.trod enc Tryz.prog W 0 (fun _ => true) held n 26 C = some y) : ∃ p : Int × Int × Slc, C = [.int .i64 p.1, .int .i64 p.2.1, p.2.2.val] := by
  obtain ⟨c0, c1, c2, rfl⟩ := list3 hl
  have g (i : Nat) (h : Nat.blt i (Tryz.prog.fieldsOf 26).size = true) : i < (Tryz.prog.fieldsOf 26).size := Nat.le_of_ble_eq_true h
  have h0 : fieldAt (Tryz.prog.fieldsOf 26) 0 (.int .i64) := fieldAt_mk (g 0 (by kernel_rfl)) (by kernel_rfl) (by kernel_rfl) (by kernel_rfl)
  have h1 : fieldAt (Tryz.prog.fieldsOf 26) 1 (.int .i64) := fieldAt_mk (g 1 (by kernel_rfl)) (by kernel_rfl) (by kernel_rfl) (by kernel_rfl)
  have h2 : fieldAt (Tryz.prog.fieldsOf 26) 2 (.slice 5) := fieldAt_mk (g 2 (by kernel_rfl)) (by kernel_rfl) (by kernel_rfl) (by kernel_rfl)
  obtain ⟨xs, m, _, hx, hlen, hxs, hf⟩ := DataW.trod_struct uPktG h
  obtain ⟨u0, y0, a0, b0⟩ := field_of h0 (by omega) hxs hf
  obtain ⟨u1, y1, a1, b1⟩ := field_of h1 (by omega) hxs hf
  obtain ⟨u2, y2, a2, b2⟩ := field_of h2 (by omega) hxs hf
  replace b0 : DataW.trod enc Tryz.prog W 0 (fun _ => true) held m u0 [c0] = some y0 := b0
  replace b1 : DataW.trod enc Tryz.prog W 0 (fun _ => true) held m u1 [c1] = some y1 := b1
  replace b2 : DataW.trod enc Tryz.prog W 0 (fun _ => true) held m u2 [c2] = some y2 := b2
  obtain ⟨k0, e0, -, -⟩ := DataW.trod_int a0 b0
  obtain ⟨k1, e1, -, -⟩ := DataW.trod_int a1 b1
  obtain ⟨s2, rfl⟩ := slc_of a2 b2
  simp at e0 e1
  exact ⟨(k0, k1, s2), by rw [e0, e1]⟩
end
end Go.Proofs.YtdjmobighhfogaaGreatDoor
end
