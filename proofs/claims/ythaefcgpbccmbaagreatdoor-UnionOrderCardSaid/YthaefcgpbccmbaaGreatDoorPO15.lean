/- The forms of the translated functions, their contracts and the plain laws behind them, put together by a program. -/
import Derived.Test.YthaefcgpbccmbaaGreatDoorPO14
set_option linter.unusedSimpArgs false
set_option linter.unusedVariables false
set_option maxRecDepth 100000
set_option maxHeartbeats 4000000
section
namespace Go.Proofs.YthaefcgpbccmbaaGreatDoor
open Go Go.Sh
section
variable {α : Type} {f : α → List Value} {k : Nat}
def flatC (f : α → List Value) (l : List α) : List Value := l.flatMap f
theorem flatC_len (hk : ∀ x, (f x).length = k) (l : List α) : (flatC f l).length = l.length * k := by
  induction l with
  | nil => simp [flatC]
  | cons a l ih => simp only [flatC, List.flatMap_cons, List.length_append] at ih ⊢; rw [ih, hk, List.length_cons, Nat.add_mul]; omega
theorem flatC_app (a b : List α) : flatC f (a ++ b) = flatC f a ++ flatC f b := by simp [flatC]
theorem flatC_get (hk : ∀ x, (f x).length = k) : ∀ {l : List α} {i j : Nat} (h : i < l.length), j < k → (flatC f l)[i * k + j]? = (f l[i])[j]?
  | [], i, j, h, _ => by simp at h
  | a :: l, 0, j, h, hj => by
    simp only [flatC, List.flatMap_cons]
    rw [Nat.zero_mul, Nat.zero_add, List.getElem?_append_left (by rw [hk]; exact hj)]; rfl
  | a :: l, i + 1, j, h, hj => by
    have ih := flatC_get hk (l := l) (i := i) (j := j) (by simpa using h) hj
    simp only [flatC, List.flatMap_cons] at ih ⊢
    rw [List.getElem?_append_right (by rw [hk, Nat.add_mul]; omega), hk, show (i + 1) * k + j - k = i * k + j by rw [Nat.add_mul]; omega, ih]
    rfl
theorem flatC_one (h1 : ∀ x, ∀ v ∈ f x, v.oneCell' = true) (l : List α) : ∀ y ∈ flatC f l, y.oneCell' = true := by
  intro y hy
  simp only [flatC, List.mem_flatMap] at hy
  obtain ⟨d, _, hd⟩ := hy
  exact h1 d y hd
theorem rd_flat {w : World} {s : Slc} {l : List α} (hk : ∀ x, (f x).length = k) (hk0 : 0 < k) (h : SlRd w s k (flatC f l)) {i : Nat} (hi : i < l.length) : ∃ a, s.a = some a ∧ Rd w (a.add (i * k)) (f l[i]) := by
  have hl : l.length = s.len := by
    have := h.1; rw [flatC_len hk] at this
    exact Nat.eq_of_mul_eq_mul_right hk0 this
  refine h.at (by omega) hk0 fun j u hu => ?_
  have hj : j < k := by have := (List.getElem?_eq_some_iff.1 hu).1; rw [hk] at this; exact this
  rw [flatC_get hk hi hj]; exact hu
theorem rd_lenC {w : World} {s : Slc} {l : List α} (hk : ∀ x, (f x).length = k) (hk0 : 0 < k) (h : SlRd w s k (flatC f l)) : l.length = s.len := by
  have := h.1; rw [flatC_len hk] at this
  exact Nat.eq_of_mul_eq_mul_right hk0 this
end
structure It where
  hd : Hd
  s : Slc
def It.cells (i : It) : List Value := i.hd.cells ++ [i.s.val]
theorem It.len (i : It) : i.cells.length = 8 := rfl
theorem It.one (i : It) : ∀ y ∈ i.cells, y.oneCell' = true := by
  intro y hy
  rcases List.mem_append.1 hy with h | h
  · exact i.hd.one y h
  · simp at h; subst h; rfl
def Hd.on (h : Hd) (z : Nat) : Prop := h.d.blk = some z ∨ h.f.blk = some z ∨ h.g.blk = some z
def It.on (i : It) (z : Nat) : Prop := i.hd.on z ∨ i.s.blk = some z
structure ItAt (w : World) (i : It) (r : Rc) : Prop where
  hd : HdAt w i.hd r
  s : SlRd w i.s 1 (bys r.enc)
  lt : ∀ z, i.s.blk = some z → z < w.heap.size
theorem ItAt.mod {w w' : World} {i : It} {r : Rc} {S : Nat → Prop} (h : ItAt w i r) (hm : Mod S w w') (hs : ∀ z, i.on z → ¬ S z) : ItAt w' i r :=
  ⟨h.hd.mod hm fun z hz => hs z (.inl hz), h.s.mod hm fun z hz => hs z (.inr hz), fun z hz => Nat.lt_of_lt_of_le (h.lt z hz) hm.size⟩
theorem ItAt.low {w : World} {i : It} {r : Rc} (h : ItAt w i r) : ∀ z, i.on z → z < w.heap.size := fun z hz => hz.elim (h.hd.lt z) (h.lt z)
def hcells (hs : List Hd) : List Value := flatC Hd.cells hs
def icells (is : List It) : List Value := flatC It.cells is
theorem uItems : Tryz.prog.underlying 175 = some (.slice 302) := by kernel_rfl
theorem uRecs : Tryz.prog.underlying 22 = some (.slice 40) := by kernel_rfl
theorem iItem : ∃ i, Tryz.prog.info? 302 = some i ∧ i.zero = some (.agg (It.cells ⟨⟨[], 0, 0, ⟨none, 0, 0⟩, false, ⟨none, 0, 0⟩, ⟨none, 0, 0⟩⟩, ⟨none, 0, 0⟩⟩).toArray) ∧ i.size = 8 ∧ i.bytes = 136 := info_of (by kernel_rfl) (by kernel_rfl) (by kernel_rfl)
def RecsAt (B : Nat) (w : World) (l : Slc) (rs : List Rc) : Prop :=
  ∃ hs : List Hd, SlRd w l 7 (hcells hs) ∧ (∀ z, l.blk = some z → z < B) ∧ hs.length = rs.length ∧ ∀ i (h : i < hs.length) (h' : i < rs.length), HdAt w hs[i] rs[i] ∧ ∀ z, hs[i].on z → z < B
theorem RecsAt.mod {B : Nat} {w w' : World} {l : Slc} {rs : List Rc} (h : RecsAt B w l rs) (hm : Mod (fun z => B ≤ z) w w') : RecsAt B w' l rs := by
  obtain ⟨hs, h1, h2, h3, h4⟩ := h
  exact ⟨hs, h1.mod hm fun z hz e => by have := h2 z hz; omega, h2, h3, fun i a b => ⟨(h4 i a b).1.mod hm fun z hz e => by have := (h4 i a b).2 z hz; omega, (h4 i a b).2⟩⟩
theorem RecsAt.len {B : Nat} {w : World} {l : Slc} {rs : List Rc} (h : RecsAt B w l rs) : rs.length = l.len := by
  obtain ⟨hs, h1, h2, h3, h4⟩ := h
  have := rd_lenC Hd.len (by omega) h1; omega
def RowI (B : Nat) (w : World) (rb : Nat) (T : TypeId) (x : Slc) (rs : List Rc) : Prop :=
  B ≤ rb ∧ ∃ is : List It, Blk w rb [x.val] T ∧ Sh.Own w x 8 (icells is) ∧ (∀ z, x.blk = some z → B ≤ z ∧ z ≠ rb) ∧ is.length = rs.length ∧ ∀ i (h : i < is.length) (h' : i < rs.length), ItAt w is[i] rs[i] ∧ ∀ z, is[i].on z → z ≠ rb ∧ x.blk ≠ some z
theorem RowI.len {B : Nat} {w : World} {rb : Nat} {T : TypeId} {x : Slc} {rs : List Rc} (h : RowI B w rb T x rs) : rs.length = x.len := by
  obtain ⟨_, is, _, h1, _, h2, _⟩ := h
  have := rd_lenC It.len (by omega) h1.rd; omega
theorem RowI.no {B : Nat} {w w' : World} {rb : Nat} {T : TypeId} {x : Slc} {rs : List Rc} (h : RowI B w rb T x rs) (hm : Mod NoB w w') : RowI B w' rb T x rs := by
  obtain ⟨h0, is, h1, h2, h3, h4, h5⟩ := h
  exact ⟨h0, is, h1.no hm, h2.no hm, h3, h4, fun i a b => ⟨(h5 i a b).1.mod hm fun _ _ h => h, (h5 i a b).2⟩⟩
theorem mod_up {B : Nat} {S : Nat → Prop} {w w' : World} (h : Mod S w w') (hs : ∀ z, S z → B ≤ z) : Mod (fun z => B ≤ z) w w' := h.mono fun z _ hz => hs z hz
section
variable {w : World}
theorem c_smust {t : Bool} (h : t = true) : Calls Tryz.prog 201 #[.bool t] w (Ret fun v w' => v = .tuple #[] ∧ w' = w) := by
  refine call201 _ ?_
  unfold sh201
  subst h
  exact condK_i (fun h => by cases h) fun _ => ⟨rfl, rfl⟩
theorem c_add2 {B rb : Nat} {T : TypeId} {x l : Slc} {rs ls : List Rc} {K : List UInt8} (hR : RowI B w rb T x rs) (hl : RecsAt B w l ls) (hls : ∀ r ∈ ls, r.right = true ∧ r.key = K) (hrs : ∀ r ∈ rs, r.key = K) (hn : rs.length + ls.length ≤ 100000) (hBw : B ≤ w.heap.size) :
    Calls Tryz.prog 121 #[.pointer (some (Addr.add ⟨rb, 0, none⟩ 0)), .slice l.a l.len l.cap] w (Ret fun v w' => v = .tuple #[] ∧ ∃ x', RowI B w' rb T x' (rs ++ ls) ∧ Mod (fun z => B ≤ z) w w') := by
  refine call121 _ _ ?_
  unfold sh121
  obtain ⟨ir, hr1, hr2, hr3, hr4⟩ := iRec
  obtain ⟨ii, hi1, hi2, hi3, hi4⟩ := iItem
  have hll := hl.len
  refine ⟨fun l' w' => match l' with | [.i _ y] => ∃ (k : Nat) (x' : Slc), y = (k : Int) ∧ k ≤ ls.length ∧ RowI B w' rb T x' (rs ++ ls.take k) ∧ Mod (fun z => B ≤ z) w w' | _ => False, fun l' _ => match l' with | [.i _ y] => (ls.length - y).toNat | _ => 0, ⟨0, x, rfl, by omega, by simpa using hR, Mod.refl _ _⟩, ?_⟩
  rintro y w1 ⟨k, x1, rfl, hk, hR1, hm1⟩
  refine condK_i (fun hlt => ?_) fun hge => ?_
  · have hlt : k < ls.length := by have := of_decide_eq_true hlt; omega
    obtain ⟨hs, g1, g2, g3, g4⟩ := hl.mod hm1
    have hks : k < hs.length := by omega
    obtain ⟨a, ea, hrd⟩ := rd_flat Hd.len (by omega) g1 hks
    obtain ⟨H, hHB⟩ := g4 k hks hlt
    obtain ⟨hrk, hkk⟩ := hls ls[k] (List.getElem_mem _)
    refine ⟨⟨by omega, by omega⟩, ?_⟩
    rw [ea]
    refine ⟨hs[k].a, hs[k].b, hs[k].c, hs[k].d, hs[k].e, hs[k].f, hs[k].g, hrd, ?_⟩
    refine sem_alloc (l := hz0) hr1 hr2 rfl fun q w2 hN2 hb2 => ⟨_, rfl, ?_⟩
    refine semU_hd (h := hs[k]) (by kernel_rfl) (by kernel_rfl) hb2 rfl fun w3 ht3 hq3 => ?_
    have hq := hN2.at_
    have hm13 : Mod NoB w1 w3 := hN2.mod.fresh ht3.mod fun z e => by have e : z = q := e; omega
    refine ⟨hs[k].a, hs[k].b, hs[k].c, hs[k].d, hs[k].e, hs[k].f, hs[k].g, rdH hq3, ?_⟩
    refine callK_ret (c_Put (h := hs[k]) (H.no hm13)) ?_
    rintro v w4 ⟨hm4, hv⟩
    rw [hrk] at hv
    obtain ⟨ps, rfl, hop, hfp⟩ := hv
    have hm14 := hm13.tr hm4
    have hR4 := hR1.no hm14
    have hR4d := hR4.no (Mod.drew NoB w4)
    obtain ⟨hBrb, is, j1, j2, j3, j4, j5⟩ := hR4d
    have hxl := hR4.len
    refine ⟨ps, 0, rfl, fun l' w' => match l' with | [] => w' = w4.drew | _ => False, ?_, ?_⟩
    · refine ⟨Mod NoB w4.drew, Mod.refl _ _, condK_i (fun _ => ?_) fun h => by simp at h⟩
      have rx : ∀ w', Mod NoB w4.drew w' → Rd w' (Addr.add (Addr.add ⟨rb, 0, none⟩ 0) 0) [x1.val] := fun w' hm => by rw [addl, addl]; exact (j1.no hm).rd1 rfl
      refine ⟨x1, rx, condK_i (fun h0 => ⟨?_, trivial⟩) fun h0 => ?_⟩
      · refine callK_ret (c_smust rfl) ?_
        rintro v w5 ⟨rfl, rfl⟩
        exact ⟨rfl, Mod.refl _ _, rfl⟩
      · have h0' : 0 < is.length := by rw [j4]; have : x1.len ≠ 0 := by simpa using h0
                                       omega
        obtain ⟨A, eA, hA⟩ := rd_flat It.len (by omega) j2.rd h0'
        obtain ⟨hI0, hI1⟩ := j5 0 h0' (by omega)
        refine ⟨x1, rx, ⟨by omega, by have := rd_lenC It.len (by omega) j2.rd; omega⟩, ?_⟩
        rw [eA]
        refine ⟨is[0].hd.a, fun w' hm => ?_, hs[k].a, fun w' hm => rdHj (i := 0) ((hq3.no hm4).drew.no hm) rfl, ?_, trivial⟩
        · rw [add0, add0]
          have := (hA.mod hm fun h => h)
          exact rd1_iff.2 (by simpa [It.cells, Hd.cells] using this 0 _ rfl)
        · have ek : (rs ++ ls.take k)[0]'(by omega) ∈ rs ++ ls.take k := List.getElem_mem _
          have ekey : ((rs ++ ls.take k)[0]'(by omega)).key = K := by
            rcases List.mem_append.1 ek with h | h
            · exact hrs _ h
            · exact (hls _ (List.mem_of_mem_take h)).2
          refine callK_ret (c_smust (by rw [hI0.hd.key, H.key, ekey, hkk]; simp)) ?_
          rintro v w5 ⟨rfl, rfl⟩
          exact ⟨rfl, Mod.refl _ _, rfl⟩
    rintro w5 rfl
    have hrb1 : rb < w1.heap.size := by obtain ⟨_, _, h, _⟩ := hR1; exact h.lt
    have hx1l : ∀ z, x1.blk = some z → z < w1.heap.size := fun z hz => by obtain ⟨_, _, _, h, _⟩ := hR1; exact h.lt hz
    have hs14 : w1.heap.size ≤ w4.heap.size := hm14.size
    have hqd := ((hq3.no hm4).drew).drew
    have j1d := j1.drew; have j2d : Sh.Own w4.drew.drew x1 8 (icells is) := j2
    have rbx : ¬ (x1.blk = some rb) := fun e => (j3 rb e).2 rfl
    have qx : ¬ (x1.blk = some q) := fun e => by have := hx1l q e; omega
    refine ⟨Mod (fun z => x1.blk = some z) w4.drew.drew, Mod.refl _ _, x1, fun w' hm => by rw [addl, addl]; exact (j1d.mod hm rbx).rd1 rfl, hs[k].a, hs[k].b, hs[k].c, hs[k].d, hs[k].e, hs[k].f, hs[k].g, fun w' hm => rdH (hqd.mod hm qx), ?_, trivial⟩
    refine sem_lit [.agg (It.cells ⟨hs[k], ps⟩).toArray] (l := icells [⟨hs[k], ps⟩]) uItems hi1 hi2 hi3 (by omega) rfl (by omega) (by omega) rfl (by intro v hv; simp at hv; subst hv; rfl) (by simp [icells, flatC, Value.cells]) fun lb w6 hN6 hb6 => ⟨⟨_, _, _⟩, rfl, hN6.mod.mono fun _ _ h => h.elim, ?_, trivial⟩
    have hlit : SlRd w6 ⟨some ⟨lb, 0, none⟩, 1, 1⟩ 8 (icells [⟨hs[k], ps⟩]) := (own_whole (n := 1) (k := 8) hb6 (by rw [icells, flatC_len It.len]; rfl)).rd
    have hil := rd_lenC It.len (by omega) j2.rd
    rw [List.length_append, List.length_take] at j4
    refine sem_append uItems hi1 hi2 hi3 rfl hi4 (j2d.no hN6.mod) hlit (flatC_one It.one _) (by simp only []; omega) (by simp only []; omega) fun x' w7 ho7 hlen hblk hm7 => ⟨x', rfl, (hN6.mod.mono fun _ _ h => h.elim).tr hm7, ?_, trivial⟩
    have hm57 : Mod (fun z => x1.blk = some z) w4.drew.drew w7 := hN6.mod.no hm7
    have hrb7 : Blk w7 rb [x1.val] T := j1d.mod hm57 rbx
    have hs6 : w4.heap.size ≤ w6.heap.size := hN6.mod.size
    have hx'z : ∀ z, x'.blk = some z → B ≤ z ∧ z ≠ rb ∧ (x1.blk = some z ∨ w4.heap.size ≤ z) := fun z hz => by
      rcases hblk with e | e
      · exact ⟨(j3 z (by rw [← e]; exact hz)).1, (j3 z (by rw [← e]; exact hz)).2, .inl (by rw [← e]; exact hz)⟩
      · rw [e] at hz; cases hz
        have := hm1.size
        exact ⟨by omega, by omega, .inr hs6⟩
    rw [addl, addl]
    refine semU_store1 (by kernel_rfl) (by kernel_rfl) rfl hrb7 (by simp) fun w8 ht8 hrb8 => ?_
    rw [wrap_i64 (e := (k : Int) + 1) (by omega)]
    have hmB : Mod (fun z => B ≤ z) w w8 := by
      have a1 : Mod (fun z => B ≤ z) w w4.drew.drew := hm1.no' ((hm14.tr (Mod.drew _ _)).tr (Mod.drew _ _))
      exact (a1.tr (mod_up hm57 fun z hz => (j3 z hz).1)).tr (mod_up ht8.mod fun z hz => by have hz : z = rb := hz; omega)
    refine ⟨⟨k + 1, x', by omega, by omega, ⟨hBrb, is ++ [⟨hs[k], ps⟩], hrb8, ?_, fun z hz => ⟨(hx'z z hz).1, (hx'z z hz).2.1⟩, ?_, fun i a b => ?_⟩, hmB⟩, by (try simp only []); omega⟩
    · have h8 := ho7.mod ht8.mod fun z hz e => (hx'z z hz).2.1 e
      rw [icells, flatC_app]; exact h8
    · rw [List.length_append, List.length_append, List.length_take]; simp; omega
    · have e2 : rs ++ ls.take (k + 1) = (rs ++ ls.take k) ++ [ls[k]] := by rw [take_snoc hlt, List.append_assoc]
      have hkeep : ∀ {i : It} {r : Rc}, ItAt w4.drew.drew i r → (∀ z, i.on z → z ≠ rb ∧ x1.blk ≠ some z ∧ z < w4.heap.size) → ItAt w8 i r ∧ ∀ z, i.on z → z ≠ rb ∧ x'.blk ≠ some z := fun hI hz => by
        refine ⟨(hI.mod hm57 fun z h e => (hz z h).2.1 e).mod ht8.mod fun z h e => (hz z h).1 e, fun z h => ⟨(hz z h).1, fun e => ?_⟩⟩
        rcases (hx'z z e).2.2 with h1 | h1
        · exact (hz z h).2.1 h1
        · have := (hz z h).2.2; omega
      rcases Nat.lt_or_ge i is.length with hi | hi
      · have e1 : (is ++ [⟨hs[k], ps⟩])[i] = is[i] := List.getElem_append_left hi
        have e3 : (rs ++ ls.take (k + 1))[i] = (rs ++ ls.take k)[i]'(by rw [List.length_append, List.length_take]; omega) := by
          simp only [e2]; exact List.getElem_append_left (by rw [List.length_append, List.length_take]; omega)
        rw [e1, e3]
        obtain ⟨hI, hz⟩ := j5 i hi (by rw [List.length_append, List.length_take]; omega)
        exact hkeep (hI.mod (Mod.drew NoB _) fun _ _ h => h) fun z h => ⟨(hz z h).1, (hz z h).2, hI.low z h⟩
      · have hie : i = is.length := by simp at a; omega
        subst hie
        have e1 : (is ++ [⟨hs[k], ps⟩])[is.length] = ⟨hs[k], ps⟩ := by simp
        have e3 : (rs ++ ls.take (k + 1))[is.length] = ls[k] := by
          simp only [e2]
          rw [List.getElem_append_right (by rw [List.length_append, List.length_take]; omega)]; simp
        rw [e1, e3]
        refine hkeep ⟨(H.no hm14).no (Mod.drew _ _) |>.no (Mod.drew _ _), hop.rd, fun z hz => hop.lt hz⟩ fun z hz => ?_
        rcases hz with hz | hz
        · have h1 := hHB z hz
          exact ⟨by omega, fun e => by have := (j3 z e).1; omega, by have := hm1.size; omega⟩
        · have h1 := hfp z hz
          have h2 : w3.heap.size ≤ z := h1
          have h3 := hm13.size
          exact ⟨by omega, fun e => by have := hx1l z e; omega, hop.lt hz⟩
  · have hkk : k = ls.length := by have := of_decide_eq_false hge; omega
    subst hkk
    rw [List.take_length] at hR1
    exact ⟨rfl, x1, hR1, hm1⟩
end
end Go.Proofs.YthaefcgpbccmbaaGreatDoor
end
section
namespace Go.Proofs.YthaefcgpbccmbaaGreatDoor
open Go Go.Sh Go.ChangeShapes Go.WideShapes Go.ChangeAt Go.RowKit
structure HdIn (w : World) (h : Hd) (r : Rc) : Prop where
  key : h.a = r.key
  cl : h.b = r.cl
  sq : h.c = r.sq
  gone : h.e = r.gone
  ctx : SlRd w h.d 2 (dts r.ctx)
  val : SlRd w h.f 1 (bys r.val)
  sig : SlRd w h.g 1 (bys r.sig)
  lt : ∀ x, h.on x → x < w.heap.size
theorem HdIn.at {w : World} {h : Hd} {r : Rc} (H : HdIn w h r) (sm : r.key.length ≤ 1000000 ∧ r.ctx.length ≤ 1000000 ∧ r.val.length ≤ 1000000 ∧ r.sig.length ≤ 1000000) : HdAt w h r :=
  ⟨H.key, H.cl, H.sq, H.gone, H.ctx, H.val, H.sig, sm, H.lt⟩
theorem HdIn.no {w w' : World} {h : Hd} {r : Rc} (H : HdIn w h r) (hm : Mod NoB w w') : HdIn w' h r :=
  ⟨H.key, H.cl, H.sq, H.gone, H.ctx.no hm, H.val.no hm, H.sig.no hm, fun x hx => Nat.lt_of_lt_of_le (H.lt x hx) hm.size⟩
def RecsIn (w : World) (s : Slc) (ls : List Rc) : Prop :=
  ∃ hs : List Hd, SlRd w s 7 (hcells hs) ∧ (∀ z, s.blk = some z → z < w.heap.size) ∧ hs.length = ls.length ∧ ∀ i (h : i < hs.length) (h' : i < ls.length), HdIn w hs[i] ls[i]
theorem RecsIn.no {w w' : World} {s : Slc} {ls : List Rc} (h : RecsIn w s ls) (hm : Mod NoB w w') : RecsIn w' s ls := by
  obtain ⟨hs, h1, h2, h3, h4⟩ := h
  exact ⟨hs, h1.no hm, fun z hz => Nat.lt_of_lt_of_le (h2 z hz) hm.size, h3, fun i a b => (h4 i a b).no hm⟩
theorem RecsIn.len {w : World} {s : Slc} {ls : List Rc} (h : RecsIn w s ls) : ls.length = s.len := by
  obtain ⟨hs, h1, h2, h3, h4⟩ := h
  have := rd_lenC Hd.len (by omega) h1; omega
section
variable {H : Type} {enc : TypeId × Value → H} {W : World} {spare : Nat → Bool} {held : Bool} {fuel : Nat}
theorem rowk_of {t e : TypeId} {k : Nat} {a : Option Addr} {len cap : Nat} {x : DataW H × List MemPlace} (ht : Tryz.prog.underlying t = some (.slice e)) (hc : Tryz.prog.cellsOf e = k) (hk : 0 < k) (h : DataW.trod enc Tryz.prog W 0 (fun _ => true) held fuel t [.slice a len cap] = some x) :
    ∃ C : Nat → List Value, SlRd W ⟨a, len, cap⟩ k ((List.range len).flatMap C) ∧ (∀ i, i < len → (C i).length = k) ∧ (∀ y, Slc.blk ⟨a, len, cap⟩ = some y → y < W.heap.size) ∧ (∀ i, i < len → ∃ (n : Nat) (y : DataW H × List MemPlace), DataW.trod enc Tryz.prog W 0 (fun _ => true) held n e (C i) = some y) ∧
      ((x.1 = .nil ∧ cap = 0) ∨ ∃ es ss, x.1 = .slice es ss ∧ es.length + ss.length = cap) := by
  rcases Deep.open_slice ht h with ⟨hcs, hx⟩ | ⟨ad, l, c, m, n, D, Pl, hcs, _, hl, _, hm, hx, hV⟩
  · cases hcs
    exact ⟨fun _ => [], ⟨by simp, Nat.le_refl _, .inl rfl⟩, fun i hi => by omega, fun y hy => by simp at hy, fun i hi => by omega, .inl ⟨by rw [hx], rfl⟩⟩
  · cases hcs
    simp only [if_true] at hm
    rw [hc] at hV hx
    obtain ⟨C, hC⟩ := Deep.choose_lt (α := List Value) hV
    have hc1 : ∀ i, i < m → (C i).length = k ∧ ∀ j, j < k → W.cell? ((ad.add (i * k)).add j) = (C i)[j]? := fun i hi => by
      obtain ⟨_, g1, g2⟩ := World.cells?_some (hC i hi).1
      exact ⟨g1, g2⟩
    have hfl : ∀ n, n ≤ m → ((List.range n).flatMap C).length = n * k ∧ ∀ i j, i < n → j < k → ((List.range n).flatMap C)[i * k + j]? = (C i)[j]? := by
      intro n hn
      induction n with
      | zero => exact ⟨by simp, fun i j hi => by omega⟩
      | succ n ih =>
        obtain ⟨g1, g2⟩ := ih (by omega)
        have g3 := (hc1 n (by omega)).1
        have e : (List.range (n + 1)).flatMap C = (List.range n).flatMap C ++ C n := by rw [List.range_succ, List.flatMap_append]; simp
        rw [e]
        refine ⟨by rw [List.length_append, g1, g3, Nat.succ_mul], fun i j hi hj => ?_⟩
        rcases Nat.lt_or_ge i n with hi' | hi'
        · rw [List.getElem?_append_left, g2 i j hi' hj]
          rw [g1]
          have := Nat.mul_le_mul_right k (show i + 1 ≤ n by omega)
          rw [Nat.succ_mul] at this; omega
        · obtain rfl : i = n := by omega
          rw [List.getElem?_append_right (by rw [g1]; omega), g1, Nat.add_sub_cancel_left]
    obtain ⟨f1, f2⟩ := hfl len (by omega)
    refine ⟨C, ⟨f1, hl, .inr ⟨ad, rfl, fun j v hj => ?_⟩⟩, fun i hi => (hc1 i (by omega)).1, fun y hy => ?_, fun i hi => ⟨n, _, (hC i (by omega)).2⟩, .inr ⟨_, _, by rw [hx], by simp; omega⟩⟩
    · have hj' : j < len * k := by
        rcases Nat.lt_or_ge j (len * k) with h | h
        · exact h
        · rw [List.getElem?_eq_none (by rw [f1]; exact h)] at hj; cases hj
      have hi : j / k < len := (Nat.div_lt_iff_lt_mul hk).2 hj'
      have hd : (j / k) * k + j % k = j := by rw [Nat.mul_comm]; exact Nat.div_add_mod j k
      have := f2 (j / k) (j % k) hi (Nat.mod_lt _ hk)
      rw [hd, hj] at this
      have h2 := (hc1 (j / k) (by omega)).2 (j % k) (Nat.mod_lt _ hk)
      rw [Go.Sh.Addr.add_add', hd] at h2
      rw [h2, ← this]
    · unfold Slc.blk at hy
      split at hy
      · cases hy
      · next hc0 =>
        simp at hy; subst hy
        have hc0' : ¬ cap = 0 := hc0
        obtain ⟨g1, g2⟩ := hc1 0 (by omega)
        have g3 := g2 0 hk
        rw [List.getElem?_eq_getElem (by omega)] at g3
        have := World.block_lt_of_cell? W _ g3
        simpa using this
theorem flat_get {α : Type} (g : α → List Value) (C : Nat → List Value) (n : Nat) (h : ∀ i, i < n → ∃ c, C i = g c) : ∃ l : List α, l.length = n ∧ (List.range n).flatMap C = l.flatMap g ∧ ∀ i (h : i < l.length), C i = g l[i] := by
  induction n with
  | zero => exact ⟨[], rfl, rfl, fun i h => by simp at h⟩
  | succ n ih =>
    obtain ⟨l, h0, hl, h1⟩ := ih fun i hi => h i (by omega)
    obtain ⟨c, hc⟩ := h n (by omega)
    refine ⟨l ++ [c], by simp [h0], by rw [List.range_succ, List.flatMap_append, hl, List.flatMap_append]; simp [hc], fun i hi => ?_⟩
    rcases Nat.lt_or_ge i n with hi' | hi'
    · rw [List.getElem_append_left (by omega)]; exact h1 i (by omega)
    · have : i = n := by simp at hi; omega
      subst this
      rw [List.getElem_append_right (by omega)]; simpa using hc
theorem cellsD : Tryz.prog.cellsOf 52 = 2 := by kernel_rfl
theorem cellsRc : Tryz.prog.cellsOf 40 = 7 := by kernel_rfl
def fieldAt (fs : Array Field) (i : Nat) (t : TypeDesc) : Prop := ∃ f, fs[i]? = some f ∧ Tryz.prog.underlying f.type = some t ∧ f.offset = i ∧ Tryz.prog.cellsOf f.type = 1
theorem fieldAt_mk {fs : Array Field} {i : Nat} {t : TypeDesc} (h : i < fs.size) (h1 : Tryz.prog.underlying (fs[i]'h).type = some t) (h2 : (fs[i]'h).offset = i) (h3 : Tryz.prog.cellsOf (fs[i]'h).type = 1) : fieldAt fs i t :=
  ⟨_, Array.getElem?_eq_getElem h, h1, h2, h3⟩
theorem field_of {fs : Array Field} {i : Nat} {t : TypeDesc} {C : List Value} {xs : List (DataW H × List MemPlace)} {n : Nat} (hF : fieldAt fs i t) (hi : i < C.length) (hxs : xs.length = fs.size)
    (hf : ∀ (i : Nat) (f : Field), fs[i]? = some f → DataW.trod enc Tryz.prog W 0 spare held n f.type ((C.drop f.offset).take (Tryz.prog.cellsOf f.type)) = xs[i]?) : ∃ (u : TypeId) (y : DataW H × List MemPlace), Tryz.prog.underlying u = some t ∧ DataW.trod enc Tryz.prog W 0 spare held n u [C[i]] = some y := by
  obtain ⟨f, a1, a2, a3, a4⟩ := hF
  have g := hf i f a1
  have hs : i < fs.size := by rcases Nat.lt_or_ge i fs.size with h | h; exact h; rw [Array.getElem?_eq_none h] at a1; cases a1
  rw [a3, a4, List.getElem?_eq_getElem (by omega)] at g
  have e : (C.drop i).take 1 = [C[i]] := by rw [List.drop_eq_getElem_cons hi]; rfl
  rw [e] at g
  exact ⟨f.type, _, a2, g⟩
theorem uDotG : Tryz.prog.underlying 52 = some (.struct (Tryz.prog.fieldsOf 52)) := by kernel_rfl
theorem uRecG : Tryz.prog.underlying 40 = some (.struct (Tryz.prog.fieldsOf 40)) := by kernel_rfl
theorem dot_of {n : Nat} {C : List Value} (hl : C.length = 2) {y : DataW H × List MemPlace} (h : DataW.trod enc Tryz.prog W 0 spare held n 52 C = some y) : ∃ d : Int × Int, C = [.int .i64 d.1, .int .i64 d.2] := by
  obtain ⟨c0, c1, rfl⟩ : ∃ c0 c1, C = [c0, c1] := by
    match C, hl with
    | [c0, c1], _ => exact ⟨c0, c1, rfl⟩
  have g (i : Nat) (h : Nat.blt i (Tryz.prog.fieldsOf 52).size = true) : i < (Tryz.prog.fieldsOf 52).size := Nat.le_of_ble_eq_true h
  have h0 : fieldAt (Tryz.prog.fieldsOf 52) 0 (.int .i64) := fieldAt_mk (g 0 (by kernel_rfl)) (by kernel_rfl) (by kernel_rfl) (by kernel_rfl)
  have h1 : fieldAt (Tryz.prog.fieldsOf 52) 1 (.int .i64) := fieldAt_mk (g 1 (by kernel_rfl)) (by kernel_rfl) (by kernel_rfl) (by kernel_rfl)
  obtain ⟨xs, m, _, hx, hlen, hxs, hf⟩ := DataW.trod_struct uDotG h
  obtain ⟨u0, y0, a0, b0⟩ := field_of h0 (by omega) hxs hf
  obtain ⟨u1, y1, a1, b1⟩ := field_of h1 (by omega) hxs hf
  obtain ⟨k0, e0, -, -⟩ := DataW.trod_int a0 b0
  obtain ⟨k1, e1, -, -⟩ := DataW.trod_int a1 b1
  simp at e0 e1
  exact ⟨(k0, k1), by rw [e0, e1]⟩
theorem slc_of {t e : TypeId} {n : Nat} {v : Value} {y : DataW H × List MemPlace} (ht : Tryz.prog.underlying t = some (.slice e)) (h : DataW.trod enc Tryz.prog W 0 spare held n t [v] = some y) : ∃ s : Slc, v = s.val := by
  rcases Deep.open_slice ht h with ⟨hcs, _⟩ | ⟨ad, l, c, _, _, _, _, hcs, _⟩
  · simp at hcs; exact ⟨⟨none, 0, 0⟩, hcs⟩
  · simp at hcs; exact ⟨⟨some ad, l, c⟩, hcs⟩
theorem rec_of {n : Nat} {C : List Value} (hl : C.length = 7) {y : DataW H × List MemPlace} (h : DataW.trod enc Tryz.prog W 0 (fun _ => true) held n 40 C = some y) : ∃ (p : Hd × Rc), C = p.1.cells ∧ HdIn W p.1 p.2 := by
  obtain ⟨c0, c1, c2, c3, c4, c5, c6, rfl⟩ : ∃ c0 c1 c2 c3 c4 c5 c6, C = [c0, c1, c2, c3, c4, c5, c6] := by
    match C, hl with
    | [c0, c1, c2, c3, c4, c5, c6], _ => exact ⟨c0, c1, c2, c3, c4, c5, c6, rfl⟩
  have g (i : Nat) (h : Nat.blt i (Tryz.prog.fieldsOf 40).size = true) : i < (Tryz.prog.fieldsOf 40).size := Nat.le_of_ble_eq_true h
  have h0 : fieldAt (Tryz.prog.fieldsOf 40) 0 .string := fieldAt_mk (g 0 (by kernel_rfl)) (by kernel_rfl) (by kernel_rfl) (by kernel_rfl)
  have h1 : fieldAt (Tryz.prog.fieldsOf 40) 1 (.int .i64) := fieldAt_mk (g 1 (by kernel_rfl)) (by kernel_rfl) (by kernel_rfl) (by kernel_rfl)
  have h2 : fieldAt (Tryz.prog.fieldsOf 40) 2 (.int .i64) := fieldAt_mk (g 2 (by kernel_rfl)) (by kernel_rfl) (by kernel_rfl) (by kernel_rfl)
  have h3 : fieldAt (Tryz.prog.fieldsOf 40) 3 (.slice 52) := fieldAt_mk (g 3 (by kernel_rfl)) (by kernel_rfl) (by kernel_rfl) (by kernel_rfl)
  have h4 : fieldAt (Tryz.prog.fieldsOf 40) 4 .bool := fieldAt_mk (g 4 (by kernel_rfl)) (by kernel_rfl) (by kernel_rfl) (by kernel_rfl)
  have h5 : fieldAt (Tryz.prog.fieldsOf 40) 5 (.slice 5) := fieldAt_mk (g 5 (by kernel_rfl)) (by kernel_rfl) (by kernel_rfl) (by kernel_rfl)
  have h6 : fieldAt (Tryz.prog.fieldsOf 40) 6 (.slice 5) := fieldAt_mk (g 6 (by kernel_rfl)) (by kernel_rfl) (by kernel_rfl) (by kernel_rfl)
  obtain ⟨xs, m, _, hx, hlen, hxs, hf⟩ := DataW.trod_struct uRecG h
  obtain ⟨u0, y0, a0, b0⟩ := field_of h0 (by omega) hxs hf
  obtain ⟨u1, y1, a1, b1⟩ := field_of h1 (by omega) hxs hf
  obtain ⟨u2, y2, a2, b2⟩ := field_of h2 (by omega) hxs hf
  obtain ⟨u3, y3, a3, b3⟩ := field_of h3 (by omega) hxs hf
  obtain ⟨u4, y4, a4, b4⟩ := field_of h4 (by omega) hxs hf
  obtain ⟨u5, y5, a5, b5⟩ := field_of h5 (by omega) hxs hf
  obtain ⟨u6, y6, a6, b6⟩ := field_of h6 (by omega) hxs hf
  replace b0 : DataW.trod enc Tryz.prog W 0 (fun _ => true) held m u0 [c0] = some y0 := b0
  replace b1 : DataW.trod enc Tryz.prog W 0 (fun _ => true) held m u1 [c1] = some y1 := b1
  replace b2 : DataW.trod enc Tryz.prog W 0 (fun _ => true) held m u2 [c2] = some y2 := b2
  replace b3 : DataW.trod enc Tryz.prog W 0 (fun _ => true) held m u3 [c3] = some y3 := b3
  replace b4 : DataW.trod enc Tryz.prog W 0 (fun _ => true) held m u4 [c4] = some y4 := b4
  replace b5 : DataW.trod enc Tryz.prog W 0 (fun _ => true) held m u5 [c5] = some y5 := b5
  replace b6 : DataW.trod enc Tryz.prog W 0 (fun _ => true) held m u6 [c6] = some y6 := b6
  obtain ⟨s0, e0, -, -⟩ := DataW.trod_string a0 b0
  obtain ⟨k1, e1, -, -⟩ := DataW.trod_int a1 b1
  obtain ⟨k2, e2, -, -⟩ := DataW.trod_int a2 b2
  obtain ⟨s3, rfl⟩ := slc_of a3 b3
  obtain ⟨k4, e4, -⟩ := DataW.trod_bool a4 b4
  obtain ⟨s5, rfl⟩ := slc_of a5 b5
  obtain ⟨s6, rfl⟩ := slc_of a6 b6
  obtain ⟨C3, g1, g2, g3, g4, _⟩ := rowk_of a3 cellsD (by omega) b3
  obtain ⟨l3, hn3, hl3, _⟩ := flat_get (fun d : Int × Int => [Value.int .i64 d.1, .int .i64 d.2]) C3 s3.len fun i hi => by
    obtain ⟨n, y, hy⟩ := g4 i hi
    exact dot_of (g2 i hi) hy
  rw [hl3] at g1
  obtain ⟨V5, p1, p2, p3, _⟩ := row_of a5 cells5 b5
  obtain ⟨l5, hl5⟩ := map_get (fun c : UInt8 => Value.int .u8 c.toNat) 0 V5 s5.len fun i hi => by
    obtain ⟨n, y, hy⟩ := p3 i hi
    exact u8_of hy
  rw [hl5] at p1
  obtain ⟨V6, q1, q2, q3, _⟩ := row_of a6 cells5 b6
  obtain ⟨l6, hl6⟩ := map_get (fun c : UInt8 => Value.int .u8 c.toNat) 0 V6 s6.len fun i hi => by
    obtain ⟨n, y, hy⟩ := q3 i hi
    exact u8_of hy
  rw [hl6] at q1
  simp at e0 e1 e2 e4
  refine ⟨(⟨s0.data.toList, k1, k2, s3, k4, s5, s6⟩, ⟨s0.data.toList, k1, k2, l3, k4, l5, l6⟩), ?_, rfl, rfl, rfl, rfl, g1, p1, q1, ?_⟩
  · rw [e0, e1, e2, e4]; simp [Hd.cells]
  · rintro z (hz | hz | hz)
    · exact g3 z hz
    · exact p2 z hz
    · exact q2 z hz
theorem recs_of {a : Option Addr} {len cap : Nat} {x : DataW H × List MemPlace} (h : DataW.trod enc Tryz.prog W 0 (fun _ => true) held fuel 22 [.slice a len cap] = some x) :
    ∃ ls, RecsIn W ⟨a, len, cap⟩ ls ∧ ((x.1 = .nil ∧ cap = 0) ∨ ∃ es ss, x.1 = .slice es ss ∧ es.length + ss.length = cap) := by
  obtain ⟨C, h1, h2, h3, h4, h5⟩ := rowk_of uRecs cellsRc (by omega) h
  have hall : ∀ i, i < len → ∃ p : Hd × Rc, C i = p.1.cells ∧ HdIn W p.1 p.2 := fun i hi => by
    obtain ⟨n, y, hy⟩ := h4 i hi
    exact rec_of (h2 i hi) hy
  have : Inhabited (Hd × Rc) := ⟨(⟨[], 0, 0, ⟨none, 0, 0⟩, false, ⟨none, 0, 0⟩, ⟨none, 0, 0⟩⟩, ⟨[], 0, 0, [], false, [], []⟩)⟩
  obtain ⟨f, hf⟩ := Deep.choose_lt (α := Hd × Rc) hall
  refine ⟨(List.range len).map fun i => (f i).2, ⟨(List.range len).map fun i => (f i).1, ?_, h3, by simp, fun i hi hi' => ?_⟩, h5⟩
  · have e : (List.range len).flatMap C = hcells ((List.range len).map fun i => (f i).1) := by
      show _ = ((List.range len).map fun i => (f i).1).flatMap Hd.cells
      rw [List.flatMap_map]
      exact Deep.flatMap_congr_range fun i hi => (hf i hi).1
    rw [← e]; exact h1
  · simp only [List.getElem_map, List.getElem_range]
    exact (hf i (by simpa using hi)).2
end
end Go.Proofs.YthaefcgpbccmbaaGreatDoor
end
